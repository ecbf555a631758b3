/- The document's examples, walked. -/
import Derived.Test.YtbiejjncjgapmaaMade
namespace Go.Proofs.Ytbiejjncjgapmaa.L
open Go.RowKit Go.Lib Go.Proofs.Ytbiejjncjgapmaa.P
open Go.Proofs.YtbiejjncjgapmaaW.PrintWords Go.Proofs.YtbiejjncjgapmaaW.PrintLast Go.Proofs.YtbiejjncjgapmaaW.PrintMore
section
variable {w0 w : World} {c m : Nat}
theorem put1 (h : Made w0 w c m [] 6 0) : Calls Try.prog 11 #[P c, .string sa, .string s1] w fun e w' => ∃ (v : Value) (b : Nat), e = .returned (.tuple #[v, .int .i64 0]) ∧ Made w0 w' c m [⟨b, sa, s1⟩] 6 1 := by
  refine (made_put h (of_decide_eq_true rfl) (by decide) (by decide) (of_decide_eq_true rfl) sa s1 (by decide) (by decide) (by decide) (by decide)).mono ?_
  rintro e w' ⟨v, b, he, _, hm⟩
  exact ⟨v, b, he, hm⟩
theorem put2 {b1 : Nat} (h : Made w0 w c m [⟨b1, sa, s1⟩] 6 1) : Calls Try.prog 11 #[P c, .string sb, .string s2] w fun e w' => ∃ (v : Value) (b : Nat), e = .returned (.tuple #[v, .int .i64 0]) ∧ Made w0 w' c m [⟨b, sb, s2⟩, ⟨b1, sa, s1⟩] 6 2 := by
  refine (made_put h (of_decide_eq_true rfl) (by decide) (by decide) (of_decide_eq_true rfl) sb s2 (by decide) (by decide) (by decide) (by decide)).mono ?_
  rintro e w' ⟨v, b, he, _, hm⟩
  exact ⟨v, b, he, hm⟩
theorem put3 {b1 b2 : Nat} (h : Made w0 w c m [⟨b2, sb, s2⟩, ⟨b1, sa, s1⟩] 6 2) : Calls Try.prog 11 #[P c, .string sc, .string s3] w fun e w' => ∃ (v : Value) (b : Nat), e = .returned (.tuple #[v, .int .i64 0]) ∧ Made w0 w' c m [⟨b, sc, s3⟩, ⟨b2, sb, s2⟩, ⟨b1, sa, s1⟩] 6 3 := by
  refine (made_put h (of_decide_eq_true rfl) (by decide) (by decide) (of_decide_eq_true rfl) sc s3 (by decide) (by decide) (by decide) (by decide)).mono ?_
  rintro e w' ⟨v, b, he, _, hm⟩
  exact ⟨v, b, he, hm⟩
theorem get3 {b1 b2 b3 : Nat} (h : Made w0 w c m [⟨b3, sc, s3⟩, ⟨b2, sb, s2⟩, ⟨b1, sa, s1⟩] 6 3) : Calls Try.prog 14 #[P c, .string sa] w fun e w' => e = .returned (.tuple #[.string s1, .bool true]) ∧ Made w0 w' c m [⟨b1, sa, s1⟩, ⟨b3, sc, s3⟩, ⟨b2, sb, s2⟩] 6 3 := made_get h sa (by decide)
theorem put4 {b1 b2 b3 : Nat} (h : Made w0 w c m [⟨b1, sa, s1⟩, ⟨b3, sc, s3⟩, ⟨b2, sb, s2⟩] 6 3) : Calls Try.prog 11 #[P c, .string sd, .string s45] w fun e w' => ∃ (A : Option Addr) (c1 b : Nat), e = .returned (.tuple #[.slice A 2 c1, .int .i64 0]) ∧ 2 ≤ c1 ∧ Kd.C Kd.string w' A 2 [sb, sc] ∧ Made w0 w' c m [⟨b, sd, s45⟩, ⟨b1, sa, s1⟩] 6 4 := by
  refine (made_put h (of_decide_eq_true rfl) (by decide) (by decide) (of_decide_eq_true rfl) sd s45 (by decide) (by decide) (by decide) (by decide)).mono ?_
  rintro e w' ⟨v, b, he, hr, hm⟩
  have hr' : Kd.R Kd.string 9 w' w.heap.size (fun _ => True) v [sb, sc] := hr
  obtain ⟨A, c1, hv⟩ := Kd.R_slice hr'
  subst hv
  have h3 := Kd.R_reads' hr'
  exact ⟨A, c1, b, he, h3.2.1, h3.2.2, hm⟩
theorem keys5 {b1 b4 : Nat} (h : Made w0 w c m [⟨b4, sd, s45⟩, ⟨b1, sa, s1⟩] 6 4) : Calls Try.prog 20 #[P c] w fun e w' => ∃ (A : Option Addr) (c1 : Nat), e = .returned (.slice A 2 c1) ∧ 2 ≤ c1 ∧ Kd.C Kd.string w' A 2 [sd, sa] ∧ Made w0 w' c m [⟨b4, sd, s45⟩, ⟨b1, sa, s1⟩] 6 4 := by
  refine (made_keys h (of_decide_eq_true rfl)).mono ?_
  rintro e w' ⟨v, he, hr, hb⟩
  have hr' : Kd.R Kd.string 9 w' w.heap.size (fun _ => True) v [sd, sa] := hr
  obtain ⟨A, c1, hv⟩ := Kd.R_slice hr'
  subst hv
  have h3 := Kd.R_reads' hr'
  exact ⟨A, c1, he, h3.2.1, h3.2.2, h.keep hb⟩
theorem lit2 (W : World) (a b : ByteArray) : Kd.C Kd.string (W.alloc (.cells #[.string a, .string b] 9)) (some ⟨W.heap.size, 0, none⟩) 2 [a, b] := by
  have ho := (MapKept.heap_alloc W (.cells #[.string a, .string b] 9)).1
  refine ⟨rfl, by decide, fun _ => ⟨_, rfl, fun j p hj => ⟨[.string p], rfl, rfl, fun i u hu => ?_⟩⟩⟩
  match i, hu with
  | 0, hu =>
    obtain rfl : Value.string p = u := by simpa using hu
    match j, hj with
    | 0, hj =>
      obtain rfl : a = p := by simpa using hj
      exact (cell_of ho 0).trans rfl
    | 1, hj =>
      obtain rfl : b = p := by simpa using hj
      exact (cell_of ho 1).trans rfl
theorem same_calls (k : Nat) (A : Option Addr) (c0 : Nat) (l : List ByteArray) (a b : ByteArray) (r : Bool) (w : World) (hr0 : Kd.C Kd.string w A l.length l) (hc0 : l.length ≤ c0) (h : tussocklaw07_same.f k l [a, b] = some r) :
    Calls Try.prog 13 #[.slice A l.length c0, .slice (some ⟨w.heap.size, 0, none⟩) 2 2] (w.alloc (.cells #[.string a, .string b] 9)) fun e w' => e = .returned (.bool r) ∧ Below w.heap.size w w' :=
  (tussocklaw07_same.calls k A c0 l (some ⟨w.heap.size, 0, none⟩) 2 [a, b] r _ (Kd.C_alloc hr0 _) hc0 (lit2 w a b) (Nat.le_refl _) h).mono fun e w' hh => ⟨hh.1, ((Below.refl _ w).alloc (Nat.le_refl _) _).trans (by first | exact hh.2.mono (by simp) | (obtain ⟨q, hq⟩ := hh.2; subst hq; exact pw_below_drewN (Below.refl _ _) q) | (rw [hh.2]; exact Below.refl _ _))⟩
theorem same_loop (l : List ByteArray) (hl : l.length < 4611686018427387904) : ∀ d n, n ≤ l.length → l.length - n = d → tussocklaw07_same.l0 (d + 1) l l (n : Int) = some true := by
  intro d
  induction d with
  | zero =>
    intro n hn hd
    simp only [tussocklaw07_same.l0]
    rw [if_neg (by omega)]
  | succ d ih =>
    intro n hn hd
    have e : tussocklaw07_same.l0 (d + 1 + 1) l l (n : Int) = if (n : Int) < (l.length : Int) then (if 0 ≤ (n : Int) then (if (n : Int) < (l.length : Int) then (if (rdOf ByteArray.empty l (n : Int)).toList = (rdOf ByteArray.empty l (n : Int)).toList then (tussocklaw07_same.l0 (d + 1) l l (wrap64 ((n : Int) + 1))) else (some false)) else (none)) else (none)) else (some true) := by simp only [tussocklaw07_same.l0]
    rw [e, if_pos (by omega), if_pos (by omega), if_pos (by omega), if_pos rfl]
    have e2 : wrap64 ((n : Int) + 1) = ((n + 1 : Nat) : Int) := by unfold wrap64; omega
    rw [e2]
    exact ih (n + 1) (by omega) (by omega)
theorem same_self (l : List ByteArray) (hl : l.length < 4611686018427387904) : tussocklaw07_same.f (l.length + 1) l l = some true := by
  unfold tussocklaw07_same.f
  rw [if_pos rfl]
  exact same_loop l hl _ 0 (Nat.zero_le _) rfl
theorem same_two {A : Option Addr} {c0 : Nat} {a b : ByteArray} {w : World} (hr0 : Kd.C Kd.string w A 2 [a, b]) (hc0 : 2 ≤ c0) :
    Calls Try.prog 13 #[.slice A 2 c0, .slice (some ⟨w.heap.size, 0, none⟩) 2 2] (w.alloc (.cells #[.string a, .string b] 9)) fun e w' => e = .returned (.bool true) ∧ Below w.heap.size w w' :=
  same_calls 3 A c0 [a, b] a b true w hr0 hc0 (same_self [a, b] (of_decide_eq_true rfl))
theorem bytes5 {b1 b4 : Nat} (h : Made w0 w c m [⟨b4, sd, s45⟩, ⟨b1, sa, s1⟩] 6 4) : Calls Try.prog 18 #[P c] w fun e w' => e = .returned (.int .i64 5) ∧ w' = w := made_bytes h
theorem put5 {b1 b4 : Nat} (h : Made w0 w c m [⟨b4, sd, s45⟩, ⟨b1, sa, s1⟩] 6 4) : Calls Try.prog 11 #[P c, .string ⟨#[101]⟩, .string ⟨#[54, 55, 56, 57, 48, 49]⟩] w fun e w' => e = .returned (.tuple #[.slice none 0 0, .int .i64 70]) ∧ w' = w := made_big h _ _ (by decide) (by decide) (by decide)
set_option maxHeartbeats 4000000 in
set_option maxRecDepth 100000 in
theorem shown_calls (w : World) : Calls Try.prog 6 #[] w fun e w' => e = .returned (.bool true) ∧ Below w.heap.size w w' := by
  go_enter Try.func6, Try.ntmps6
  go_wp2_with (first | (go_at_call 8; refine (made_new 6 (by decide) w).mono ?_; rintro e w1 ⟨c, m, rfl, h1⟩; have M0 := hid h1; clear h1) | (go_at_call 11; (first | (refine (put5 M4.out).mono ?_; rintro e w_ ⟨rfl, hww⟩; have hww2 := hww.symm; subst hww2) | (refine (put4 MG.out).mono ?_; rintro e w5 ⟨A4, c4, b4, rfl, hc4, hr4, hm⟩; have R4 := hid hr4; have M4 := hid hm; clear hr4 hm) | (refine (put3 M2.out).mono ?_; rintro e w4 ⟨v3, b3, rfl, hm⟩; have M3 := hid hm; clear hm) | (refine (put2 M1.out).mono ?_; rintro e w3 ⟨v2, b2, rfl, hm⟩; have M2 := hid hm; clear hm) | (refine (put1 M0.out).mono ?_; rintro e w2 ⟨v1, b1, rfl, hm⟩; have M1 := hid hm; clear hm))) | (go_at_call 14; refine (get3 M3.out).mono ?_; rintro e wg ⟨rfl, hm⟩; have MG := hid hm; clear hm) | (go_at_call 13; (first | (refine (same_two R6.out hc6).mono ?_; rintro e wt ⟨rfl, hb⟩; have M7 := hid (M6.out.keep hb); clear hb) | (refine (same_two R4.out hc4).mono ?_; rintro e ws ⟨rfl, hb⟩; have M5 := hid (M4.out.keep hb); clear hb))) | (go_at_call 20; refine (keys5 M5.out).mono ?_; rintro e wk ⟨A6, c6, rfl, hc6, hr6, hm6⟩; have R6 := hid hr6; have M6 := hid hm6; clear hr6 hm6) | (go_at_call 18; refine (bytes5 M7.out).mono ?_; rintro e w_ ⟨rfl, hww⟩; have hww2 := hww.symm; subst hww2))
  go_ret
  exact ⟨rfl, M7.out.below⟩
end
end Go.Proofs.Ytbiejjncjgapmaa.L
