/- The machine side of strings.ContainsAny(s, "/\x00"): every text of fewer than 2^32 bytes. -/
import Derived.Test.YtinndapmljnifaaDoorShelf
import Derived.Test.YtinndapmljnifaaDoorPts
import Derived.Test.YtinndapmljnifaaDoorWMore
import Derived.Lib.Hide
import Derived.WalkMore
import Derived.WalkSpells
import Derived.WalkLawsBesides
import Derived.Laws.RangeAny
import Derived.Lib.OthersKept
import Derived.Outline
import Derived.Deep.QuietTactic
import Derived.BigQuiet
namespace Go.Proofs.YtinndapmljnifaaDoor.P
open Go.RowKit Go.Lib
open Go.Proofs.YtinndapmljnifaaDoorW.PrintWords
set_option maxHeartbeats 1000000 in
set_option maxRecDepth 100000 in
theorem idxrune_err (w : World) :
    Calls Tryd.prog 97 #[.string ⟨#[47, 0]⟩, .int .i32 65533] w fun e w' => e = .returned (.int .i64 (-1)) ∧ Below w.heap.size w w' := by
  have n0 := fun ty => run_next_ascii (P := Tryd.prog) w ⟨#[47, 0]⟩ 0 ty (by decide) (by decide)
  have n1 := fun ty => run_next_ascii (P := Tryd.prog) w ⟨#[47, 0]⟩ 1 ty (by decide) (by decide)
  have n2 := fun ty => run_next_end (P := Tryd.prog) w ⟨#[47, 0]⟩ 2 ty (by decide)
  go_enter Tryd.func97, Tryd.ntmps97
  go_wp2_with fail
  refine wp_loop_rounds 3 ?_
  rw [rounds_succ]
  go_wp2
  rw [rounds_succ]
  go_wp2
  rw [rounds_succ]
  go_wp2
  go_ret
  exact ⟨rfl, (Below.refl _ _).alloc (Nat.le_refl _) _⟩
set_option maxHeartbeats 1000000 in
set_option maxRecDepth 100000 in
theorem idxrune_not (r : Int) (w : World) (h : 128 ≤ r) (h2 : r ≤ 2147483647) (hv : Lib.validRune r = false) (hn : (r == 65533) = false) :
    Calls Tryd.prog 97 #[.string ⟨#[47, 0]⟩, .int .i32 r] w fun e w' => e = .returned (.int .i64 (-1)) ∧ Below w.heap.size w w' := by
  have HV := Lib.hid hv
  clear hv
  have h8 : decide (r < 128) = false := decide_eq_false (by omega)
  go_enter Tryd.func97, Tryd.ntmps97
  go_wp2_with (go_at_call 102; refine (Tryd.utf8_ValidRune _ _).mono ?_; rintro e w' ⟨rfl, hw⟩; rw [hw, HV.out]; clear hw)
  go_ret
  exact ⟨rfl, Below.refl _ _⟩
theorem enc_long (r : Int) (h : 2048 ≤ r) (hv : Utf8.valid r = true) : 3 ≤ (Utf8.encode r).size ∧ (Utf8.encode r).size ≤ 4 := by
  unfold Utf8.encode
  simp only [hv, if_true]
  rw [if_neg (by omega), if_neg (by omega)]
  split
  · exact ⟨Nat.le_refl 3, Nat.le_succ 3⟩
  · exact ⟨Nat.le_succ 3, Nat.le_refl 4⟩
theorem enc_two (r : Int) (h : 128 ≤ r) (h2 : r < 2048) (hv : Utf8.valid r = true) : ∃ x y : UInt8, Utf8.encode r = ⟨#[x, y]⟩ ∧ 128 ≤ y.toNat := by
  unfold Utf8.encode
  simp only [hv, if_true]
  rw [if_neg (by omega), if_pos (by omega)]
  refine ⟨_, _, rfl, ?_⟩
  rw [UInt8.toNat_ofNat']
  omega
theorem valid_same (r : Int) : Lib.validRune r = Utf8.valid r := by
  unfold Lib.validRune Utf8.valid
  rw [Bool.eq_iff_iff]
  simp only [decide_eq_true_eq, Bool.or_eq_true, Bool.and_eq_true]
  omega
set_option maxHeartbeats 1000000 in
set_option maxRecDepth 100000 in
theorem idxrune_long (r : Int) (w : World) (h : 2048 ≤ r) (h2 : r ≤ 2147483647) (hv : Lib.validRune r = true) (hn : (r == 65533) = false) :
    Calls Tryd.prog 97 #[.string ⟨#[47, 0]⟩, .int .i32 r] w fun e w' => e = .returned (.int .i64 (-1)) ∧ Below w.heap.size w w' := by
  obtain ⟨e3, e4⟩ := enc_long r h (by rw [← valid_same]; exact hv)
  have HV := Lib.hid hv
  clear hv
  have h8 : decide (r < 128) = false := decide_eq_false (by omega)
  go_enter Tryd.func97, Tryd.ntmps97
  go_wp2_with (go_at_call 102; refine (Tryd.utf8_ValidRune _ _).mono ?_; rintro e w' ⟨rfl, hw⟩; rw [hw, HV.out]; clear hw)
  go_step3
  go_wp2_with fail
  refine wp_loop_rounds 1 ?_
  rw [rounds_succ]
  go_wp2
  try rw [Exit.noGoto_ret]
  go_ret
  exact ⟨rfl, Below.refl _ _⟩
set_option maxHeartbeats 1000000 in
set_option maxRecDepth 100000 in
theorem idxrune_two (r : Int) (w : World) (h : 128 ≤ r) (h2 : r < 2048) (hv : Lib.validRune r = true) :
    Calls Tryd.prog 97 #[.string ⟨#[47, 0]⟩, .int .i32 r] w fun e w' => e = .returned (.int .i64 (-1)) ∧ Below w.heap.size w w' := by
  obtain ⟨x, y, he, hy⟩ := enc_two r h h2 (by rw [← valid_same]; exact hv)
  have hn : (r == 65533) = false := beq_eq_false_iff_ne.2 (by omega)
  have HV := Lib.hid hv
  clear hv
  have h8 : decide (r < 128) = false := decide_eq_false (by omega)
  have hy0 : (((⟨#[47, 0]⟩ : ByteArray)[1].toNat : Int) != (((⟨#[x, y]⟩ : ByteArray)[1]'(Nat.lt_succ_self 1)).toNat : Int)) = true := bne_iff_ne.2 (by
    show ((0 : UInt8).toNat : Int) ≠ (y.toNat : Int)
    have : (0 : UInt8).toNat = 0 := rfl
    omega)
  have hsl : ∀ w : World, (Instr.slice 9 (.string ⟨#[47, 0]⟩) (some (.int .i64 2)) none none).run Tryd.prog w = .ok (.string ⟨#[]⟩) w := fun w => by kernel_rfl
  have hw2 : IntKind.i64.wrap 2 = 2 := by decide
  have hix : ∀ c : UInt8, Lib.indexByte (⟨#[]⟩ : ByteArray).data.toList c = -1 := fun _ => rfl
  go_enter Tryd.func97, Tryd.ntmps97
  go_wp2_with (go_at_call 102; refine (Tryd.utf8_ValidRune _ _).mono ?_; rintro e w' ⟨rfl, hw⟩; rw [hw, HV.out]; clear hw)
  go_step3
  go_wp2_with fail
  refine wp_loop_rounds 1 ?_
  rw [rounds_succ]
  go_wp2_with fail
  go_step3
  go_wp2_with fail
  go_quiet (fail)
  have hbq : Below w.heap.size w (w.drewN nq) := pw_below_drewN (Below.refl _ _) _
  have hbk := Lib.hid hbq
  clear hbq
  generalize w.drewN nq = w2 at hbk ⊢
  go_wp2_with fail
  go_quiet ((go_at_call 101; exact Calls.quiet_of_same (Tryd.strings_IndexByte _ _ _)))
  go_wp2_with fail
  repeat (first | rw [Exit.noGoto_ret] | simp only [Exit.inBlock, Exit.then])
  go_ret
  exact ⟨rfl, pw_below_drewN hbk.out _⟩
theorem idxrune_hi (r : Int) (w : World) (h : 128 ≤ r) (h2 : r ≤ 2147483647) :
    Calls Tryd.prog 97 #[.string ⟨#[47, 0]⟩, .int .i32 r] w fun e w' => e = .returned (.int .i64 (-1)) ∧ Below w.heap.size w w' := by
  by_cases hn : r = 65533
  · subst hn; exact idxrune_err w
  · have hn' : (r == 65533) = false := beq_eq_false_iff_ne.2 hn
    cases hv : Lib.validRune r with
    | false => exact idxrune_not r w h h2 hv hn'
    | true =>
      by_cases h3 : r < 2048
      · exact idxrune_two r w h h3 hv
      · exact idxrune_long r w (by omega) h2 hv hn'
theorem decode_skip (s : ByteArray) (pos j : Nat) (h : pos < s.size) (ha : 128 ≤ (s[pos]'h).toNat) (h1 : pos ≤ j) (h2 : j < pos + (Utf8.decode s pos).2) (hj : j < s.size) : 128 ≤ (s[j]'hj).toNat := by
  have g : ∀ k (hk : pos + k < s.size), (s.get! (pos + k)).toNat = (s[pos + k]'hk).toNat := fun k hk => by
    show (s.get! (pos + k)).toNat = _
    simp [ByteArray.get!, getElem!_pos, hk]
    rfl
  obtain ⟨k, rfl⟩ : ∃ k, j = pos + k := ⟨j - pos, by omega⟩
  have hk : k < (Utf8.decode s pos).2 := by omega
  clear h2
  by_cases hk0 : k = 0
  · subst hk0; exact ha
  rw [← g k hj]
  have hn : ¬ (s.get! (pos + 0)).toNat < 128 := by rw [g 0 h]; exact Nat.not_lt.2 ha
  rcases Nat.lt_or_ge k 2 with a | a
  · obtain rfl : k = 1 := by omega
    simp only [Utf8.decode, hn, if_false] at hk
    repeat' split at hk
    all_goals (simp only [Bool.and_eq_true, decide_eq_true_eq, beq_iff_eq] at *)
    all_goals omega
  rcases Nat.lt_or_ge k 3 with a | a
  · obtain rfl : k = 2 := by omega
    simp only [Utf8.decode, hn, if_false] at hk
    repeat' split at hk
    all_goals (simp only [Bool.and_eq_true, decide_eq_true_eq, beq_iff_eq] at *)
    all_goals omega
  rcases Nat.lt_or_ge k 4 with a | a
  · obtain rfl : k = 3 := by omega
    simp only [Utf8.decode, hn, if_false] at hk
    repeat' split at hk
    all_goals (simp only [Bool.and_eq_true, decide_eq_true_eq, beq_iff_eq] at *)
    all_goals omega
  · simp only [Utf8.decode, hn, if_false] at hk
    repeat' split at hk
    all_goals omega
def isSep (c : UInt8) : Bool := c == 47 || c == 0
theorem isSep_hi (x : UInt8) (h : 128 ≤ x.toNat) : isSep x = false := by
  unfold isSep
  rw [Bool.or_eq_false_iff]
  constructor
  · rw [beq_eq_false_iff_ne]; rintro rfl; revert h; decide
  · rw [beq_eq_false_iff_ne]; rintro rfl; revert h; decide
theorem sep_idx (x : UInt8) : decide (0 ≤ Lib.indexByte (⟨#[47, 0]⟩ : ByteArray).data.toList x) = isSep x := by
  show decide (0 ≤ Lib.indexByte [47, 0] x) = (x == 47 || x == 0)
  unfold Lib.indexByte Lib.indexByte Lib.indexByte
  by_cases h1 : x = 47
  · subst h1; rfl
  · by_cases h2 : x = 0
    · subst h2; rfl
    · have e1 : ((47 : UInt8) == x) = false := beq_eq_false_iff_ne.2 (fun e => h1 e.symm)
      have e2 : ((0 : UInt8) == x) = false := beq_eq_false_iff_ne.2 (fun e => h2 e.symm)
      have e3 : (x == (47 : UInt8)) = false := beq_eq_false_iff_ne.2 h1
      have e4 : (x == (0 : UInt8)) = false := beq_eq_false_iff_ne.2 h2
      simp [e1, e2, e3, e4]
def NoSep (s : ByteArray) (i : Nat) : Prop := ∀ j (hj : j < s.size), j < i → isSep (s[j]'hj) = false
theorem NoSep.all {s : ByteArray} {i : Nat} (h : NoSep s i) (hi : s.size ≤ i) : s.data.toList.any isSep = false := by
  rw [List.any_eq_false]
  intro x hx
  obtain ⟨j, hj, rfl⟩ := List.getElem_of_mem hx
  have hj' : j < s.size := by rw [Lib.size_eq]; exact hj
  have := h j hj' (by omega)
  rw [Bool.not_eq_true]
  exact this
theorem any_at {s : ByteArray} {i : Nat} (hi : i < s.size) (h : isSep (s[i]'hi) = true) : s.data.toList.any isSep = true := by
  rw [List.any_eq_true]
  exact ⟨s[i]'hi, by have : s.data.toList[i]'(by rw [← Lib.size_eq]; exact hi) = s[i]'hi := rfl
                     rw [← this]; exact List.getElem_mem _, h⟩
set_option maxHeartbeats 2000000 in
set_option maxRecDepth 100000 in
theorem indexAny_short (s : ByteArray) (w : World) (h8 : s.size ≤ 8) :
    Calls Tryd.prog 92 #[.string s, .string ⟨#[47, 0]⟩] w fun e w' => ∃ r : Int, e = .returned (.int .i64 r) ∧ decide (0 ≤ r) = s.data.toList.any isSep ∧ Below w.heap.size w w' := by
  have h8z : decide ((8 : Int) < (s.size : Int)) = false := decide_eq_false (by omega)
  go_enter Tryd.func92, Tryd.ntmps92
  go_wp2_with (go_at_call 98; refine (Tryd.strings_shouldUseASCIISet _ _).mono ?_; rintro e w' ⟨rfl, hw⟩; rw [hw, h8z]; clear hw)
  go_loopg [9, 10] s.size (fun g _ _ wx => ∃ i : Nat, g = s.size - i ∧ Hid (Below w.heap.size w wx) ∧ Hid (wx.heap[w.heap.size]? = some (.stringIter s i)) ∧ Hid (NoSep s i))
  case atStart => exact ⟨0, rfl, Lib.hid ((Below.refl _ _).alloc (Nat.le_refl _) _), Lib.hid (World.iter_heap w s 0), Lib.hid (fun j _ h => absurd h (Nat.not_lt_zero _))⟩
  case round =>
    obtain ⟨i, rfl, HB, HI, HN⟩ := hrel
    by_cases hi : i < s.size
    · by_cases ha : (s[i]'hi).toNat < 128
      · have hnx := fun ty => run_next_ascii_at (P := Tryd.prog) wr w.heap.size s i ty HI.out hi ha
        have HB2 : Hid (Below w.heap.size w (wr.iterAt w.heap.size s (i + 1))) := Lib.hid (below_iterAt HB.out (Nat.le_refl _) _ _)
        have HI2 : Hid ((wr.iterAt w.heap.size s (i + 1)).heap[w.heap.size]? = some (.stringIter s (i + 1))) := Lib.hid (iterAt_heap wr w.heap.size s i _ HI.out)
        obtain ⟨W2, hW2⟩ : ∃ W2, W2 = wr.iterAt w.heap.size s (i + 1) := ⟨_, rfl⟩
        rw [← hW2] at hnx HB2 HI2
        clear hW2 HB
        have Hx : Hid (s[i]'hi = s[i]'hi) := Lib.hid rfl
        obtain ⟨x, hx⟩ : ∃ x : UInt8, s[i]'hi = x := ⟨_, rfl⟩
        rw [hx] at hnx ha
        have HX := Lib.hid hx
        clear hx Hx
        have hback : ((x.toNat : Int)).toNat.toUInt8 = x := by simp
        have HK := Lib.hid hback
        clear hback
        have hsep := sep_idx x
        cases hb : isSep x with
        | true =>
          rw [hb] at hsep
          have hge : (0 : Int) ≤ Lib.indexByte (⟨#[47, 0]⟩ : ByteArray).data.toList x := of_decide_eq_true hsep
          clear hsep
          have HS := Lib.hid hb
          clear hb
          go_wp2_with (go_at_call 97; refine (Tryd.strings_IndexRune_ascii _ _ _ (by omega) (by omega)).mono ?_; rintro e w' ⟨rfl, hw⟩; rw [hw, HK.out]; clear hw)
          go_ret
          refine ⟨_, rfl, ?_, HB2.out⟩
          rw [any_at hi (by rw [HX.out]; exact HS.out)]
          exact decide_eq_true (by omega)
        | false =>
          rw [hb] at hsep
          have hge : ¬ ((0 : Int) ≤ Lib.indexByte (⟨#[47, 0]⟩ : ByteArray).data.toList x) := of_decide_eq_false hsep
          clear hsep
          have HS := Lib.hid hb
          clear hb
          go_wp2_with (go_at_call 97; refine (Tryd.strings_IndexRune_ascii _ _ _ (by omega) (by omega)).mono ?_; rintro e w' ⟨rfl, hw⟩; rw [hw, HK.out]; clear hw)
          go_roundg (s.size - (i + 1))
          case measure => omega
          case rel =>
            refine ⟨i + 1, rfl, HB2, HI2, Lib.hid (fun j hj hlt => ?_)⟩
            by_cases e : j = i
            · subst e; rw [HX.out]; exact HS.out
            · exact HN.out j hj (by omega)
      · have hnx := fun ty => run_next_any_at (P := Tryd.prog) wr w.heap.size s i ty HI.out hi
        obtain ⟨hd1, hd2⟩ := decode_high s i hi (by omega)
        have hd3 := decode_le s i
        have HB2 : Hid (Below w.heap.size w (wr.iterAt w.heap.size s (i + (Utf8.decode s i).2))) := Lib.hid (below_iterAt HB.out (Nat.le_refl _) _ _)
        have HI2 : Hid ((wr.iterAt w.heap.size s (i + (Utf8.decode s i).2)).heap[w.heap.size]? = some (.stringIter s (i + (Utf8.decode s i).2))) := Lib.hid (iterAt_heap wr w.heap.size s i _ HI.out)
        have HN2 : Hid (NoSep s (i + (Utf8.decode s i).2)) := Lib.hid (fun j hj hlt => by
          by_cases e : j < i
          · exact HN.out j hj e
          · exact isSep_hi _ (decode_skip s i j hi (by omega) (by omega) hlt hj))
        clear ha HB HI HN
        generalize Utf8.decode s i = q at hnx hd1 hd2 hd3 HB2 HI2 HN2
        obtain ⟨q1, q2⟩ := q
        simp only at hnx hd1 hd2 hd3 HB2 HI2 HN2
        obtain ⟨W2, hW2⟩ : ∃ W2, W2 = wr.iterAt w.heap.size s (i + q2) := ⟨_, rfl⟩
        rw [← hW2] at hnx HB2 HI2
        clear hW2
        go_wp2_with (go_at_call 97; refine (idxrune_hi _ _ (by omega) (by omega)).mono ?_; rintro e w' ⟨rfl, hw⟩; have HW := Lib.hid hw; clear hw)
        go_roundg (s.size - (i + q2))
        case measure => omega
        case rel =>
          have hlt : w.heap.size < W2.heap.size := (Array.getElem?_eq_some_iff.1 HI2.out).1
          exact ⟨i + q2, rfl, Lib.hid (below_then HB2.out (Nat.le_of_lt hlt) HW.out), Lib.hid ((HW.out.block _ hlt).trans HI2.out), HN2⟩
    · have hnx := fun ty => run_next_end_at (P := Tryd.prog) wr w.heap.size s i ty HI.out hi
      go_wp2
      go_ret
      exact ⟨_, rfl, by rw [HN.out.all (by omega)]; rfl, HB.out⟩
theorem indexAny_sep (l : List UInt8) : decide (0 ≤ Lib.indexAny l [47, 0]) = l.any isSep := by
  induction l with
  | nil => rfl
  | cons b t ih =>
    rw [List.any_cons, ← ih]
    have e0 : Lib.indexAny (b :: t) [47, 0] = if ([47, 0] : List UInt8).contains b then 0 else if Lib.indexAny t [47, 0] == -1 then -1 else Lib.indexAny t [47, 0] + 1 := rfl
    rw [e0]
    have hc : ([47, 0] : List UInt8).contains b = isSep b := by
      rw [Lib.contains_iff_indexByte]; exact sep_idx b
    rw [hc]
    cases hb : isSep b with
    | true => rfl
    | false =>
      rw [if_neg Bool.false_ne_true, Bool.false_or]
      have := Lib.indexAny_ge [47, 0] t
      by_cases h1 : Lib.indexAny t [47, 0] = -1
      · rw [h1]; rfl
      · have e : (Lib.indexAny t [47, 0] == -1) = false := beq_eq_false_iff_ne.2 h1
        rw [e, if_neg Bool.false_ne_true, Bool.eq_iff_iff]
        simp only [decide_eq_true_eq]
        omega
theorem zero_set (w : World) : (zeroValue 106).run Tryd.prog w = .ok (.agg (Array.replicate 256 (.bool false))) w := by kernel_rfl
theorem indexAny_any (s : ByteArray) (w : World) (hs : s.size < 4294967281) :
    Calls Tryd.prog 92 #[.string s, .string ⟨#[47, 0]⟩] w fun e w' => ∃ r : Int, e = .returned (.int .i64 r) ∧ decide (0 ≤ r) = s.data.toList.any isSep ∧ Below w.heap.size w w' := by
  by_cases h8 : s.size ≤ 8
  · exact indexAny_short s w h8
  · refine (Tryd.strings_IndexAny_long zero_set s ⟨#[47, 0]⟩ w (Nat.le_refl 2) (by omega) hs (by decide) ?_).mono ?_
    · intro j b hb
      rcases j with _ | _ | j
      · obtain rfl : (47 : UInt8) = b := by simpa using hb
        decide
      · obtain rfl : (0 : UInt8) = b := by simpa using hb
        decide
      · simp at hb
    · rintro e w' ⟨rfl, rfl⟩
      exact ⟨_, rfl, indexAny_sep _, ((Below.refl _ _).alloc (Nat.le_refl _) _).alloc (by simp) _⟩
set_option maxHeartbeats 1000000 in
set_option maxRecDepth 100000 in
theorem containsAny_any (s : ByteArray) (w : World) (hs : s.size < 4294967281) :
    Calls Tryd.prog 78 #[.string s, .string ⟨#[47, 0]⟩] w fun e w' => e = .returned (.bool (s.data.toList.any isSep)) ∧ Below w.heap.size w w' := by
  have h := Lib.hid (indexAny_any s w hs)
  go_enter Tryd.func78, Tryd.ntmps78
  go_wp2_with (go_at_call 92; refine (h.out).mono ?_; rintro e w' ⟨r, rfl, hr, hb⟩; have HB := Lib.hid hb; have HR := Lib.hid hr; clear hb hr)
  go_ret
  exact ⟨by rw [← HR.out]; rfl, HB.out⟩
def strings_ContainsAny.f (a0 a1 : ByteArray) : Option Bool :=
  if a1.data.toList = [47, 0] ∧ a0.size < 4294967281 then some (a0.data.toList.any fun c => c == 47 || c == 0) else none
theorem strings_ContainsAny.calls (a0 a1 : ByteArray) (r : Bool) (w : World) (h : strings_ContainsAny.f a0 a1 = some r) :
    Calls Tryd.prog 78 #[.string a0, .string a1] w fun e w' => e = .returned (.bool r) ∧ Below w.heap.size w w' := by
  unfold strings_ContainsAny.f at h
  split at h
  · rename_i hc
    obtain rfl : a1 = ⟨#[47, 0]⟩ := ba_ext hc.1
    obtain rfl := Option.some.inj h
    exact containsAny_any a0 w hc.2
  · cases h
end Go.Proofs.YtinndapmljnifaaDoor.P
