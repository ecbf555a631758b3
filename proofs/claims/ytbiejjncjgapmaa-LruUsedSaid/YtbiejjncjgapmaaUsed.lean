/- LruUsed, walked. -/
import Derived.Test.YtbiejjncjgapmaaShown
import Derived.StillTailTactics
import Derived.Deep.QuietTactic
import Derived.BigQuiet
import Derived.Deep.RegionHeld3
namespace Go.Proofs.Ytbiejjncjgapmaa.L
open Go.RowKit Go.Lib Go.Proofs.Ytbiejjncjgapmaa.P
open Go.Proofs.YtbiejjncjgapmaaW.PrintWords Go.Proofs.YtbiejjncjgapmaaW.PrintLast Go.Proofs.YtbiejjncjgapmaaW.PrintMore
attribute [local go_sem] max2_int
theorem wrapEq (x : Int) : IntKind.i64.wrap x = wrap64 x := by rw [IntKind.wrap_i64]; unfold wrap64; omega
theorem toList_inj {s t : ByteArray} (h : s.toList = t.toList) : s = t := by
  rw [ByteArray.toList_eq, ByteArray.toList_eq] at h
  cases s; cases t
  simp at h
  rw [h]
theorem ev_keep (bud : Int) (t : List Item) (ht : (weightI t : Int) ≤ bud) : ∀ l : List Item, ∃ l' : List Item, (evR bud (l ++ t)).1 = l' ++ t ∧ l'.length ≤ l.length ∧ (weightI (l' ++ t) : Int) ≤ bud := by
  intro l
  induction l with
  | nil =>
    refine ⟨[], ?_, Nat.le_refl _, ht⟩
    cases t with
    | nil => rfl
    | cons z zs => rw [List.nil_append, evR, if_neg (by omega)]
  | cons a l ih =>
    obtain ⟨l', h1, h2, h3⟩ := ih
    rw [List.cons_append, evR]
    by_cases h : (weightI (a :: (l ++ t)) : Int) > bud
    · rw [if_pos h]
      exact ⟨l', h1, by rw [List.length_cons]; omega, h3⟩
    · rw [if_neg h]
      exact ⟨a :: l, rfl, Nat.le_refl _, by rw [List.cons_append]; omega⟩
theorem used_put (bud : Int) (x y : Item) (rest : List Item) (hk : x.key ≠ y.key) (hw : ((heft x + heft y : Nat) : Int) ≤ bud) :
    ∃ r2, (evR bud (y :: outI (x :: rest) y.key).reverse).1.reverse = y :: x :: r2 ∧ r2.length ≤ rest.length ∧ (weightI (y :: x :: r2) : Int) ≤ bud := by
  have e : outI (x :: rest) y.key = x :: outI rest y.key := by
    unfold outI
    rw [List.filter_cons_of_pos (by simp [hk])]
  have e2 : (y :: x :: outI rest y.key).reverse = (outI rest y.key).reverse ++ [x, y] := by simp
  obtain ⟨l', h1, h2, h3⟩ := ev_keep bud [x, y] (by rw [weight_cons, weight_cons]; simpa [weightI] using hw) (outI rest y.key).reverse
  rw [e, e2, h1]
  refine ⟨l'.reverse, by simp, ?_, ?_⟩
  · rw [List.length_reverse]
    rw [List.length_reverse] at h2
    have h4 : (outI rest y.key).length ≤ rest.length := List.length_filter_le _ _
    omega
  · have e3 : (l' ++ [x, y]).reverse = y :: x :: l'.reverse := by simp
    rw [← e3, weight_reverse]; exact h3
theorem used_get (x y : Item) (r2 : List Item) (hk : x.key ≠ y.key) : getV (y :: x :: r2) x.key = (x.val, true) ∧ ∃ r3, getI (y :: x :: r2) x.key = x :: r3 ∧ r3.length ≤ r2.length + 1 ∧ weightI (x :: r3) ≤ weightI (y :: x :: r2) := by
  have hf : findI (y :: x :: r2) x.key = some x := by
    rw [find_cons, if_neg hk, find_cons, if_pos rfl]
  have ho : outI (y :: x :: r2) x.key = y :: outI r2 x.key := by
    unfold outI
    rw [List.filter_cons_of_pos (by simp; exact fun e => hk e.symm), List.filter_cons_of_neg (by simp)]
  unfold getV getI
  rw [hf, ho]
  refine ⟨rfl, _, rfl, ?_, ?_⟩
  · rw [List.length_cons]
    have h4 : (outI r2 x.key).length ≤ r2.length := List.length_filter_le _ _
    omega
  · have := weight_filter r2 x.key
    rw [weight_cons, weight_cons, weight_cons, weight_cons]; omega
theorem Made.since {w w1 W : World} {c m : Nat} {os : List Item} {bud : Int} {n : Nat} (h : Made w1 W c m os bud n) (b : Below w.heap.size w w1) : Made w W c m os bud n := by
  obtain ⟨is, hc, hk⟩ := h.at_
  exact ⟨⟨is, hc, fun k hm => Nat.le_trans b.size (hk k hm)⟩, b.trans (h.below.mono b.size)⟩
theorem first_put {w0 w : World} {c m : Nat} (key val : ByteArray) (g : Nat) (h : Made w0 w c m [] ((key.size : Int) + (val.size : Int) + (g : Int)) 0) (hk : key.size < 1152921504606846976) (hkm : key.size ≤ maxLen) (hv : val.size < 1152921504606846976) :
    Calls Try.prog 11 #[P c, .string key, .string val] w fun e w' => ∃ (v : Value) (b : Nat), e = .returned (.tuple #[v, .int .i64 0]) ∧ Made w0 w' c m [⟨b, key, val⟩] ((key.size : Int) + (val.size : Int) + (g : Int)) 1 := by
  refine (made_put h (by decide) (by omega) (by decide) (by decide) key val hk hkm hv (by omega)).mono ?_
  rintro e w' ⟨v, b, he, _, hm⟩
  have ev : (evR ((key.size : Int) + (val.size : Int) + (g : Int)) (⟨b, key, val⟩ :: outI [] key).reverse).1.reverse = [⟨b, key, val⟩] := by
    show (evR _ [⟨b, key, val⟩]).1.reverse = _
    rw [evR, if_neg]
    · rfl
    · rw [weight_cons]
      simp only [heft, weightI, List.map_nil, List.sum_nil]
      omega
  rw [ev] at hm
  exact ⟨v, b, he, hm⟩
theorem next_put {w0 w : World} {c m : Nat} {x : Item} {rest : List Item} {bud : Int} {n : Nat} (h : Made w0 w c m (x :: rest) bud n) (hw : weightI (x :: rest) < 2305843009213693952) (hn : n + 1 < maxLen) (hr : rest.length < 4294967294) (key val : ByteArray) (hkx : x.key ≠ key)
    (hk : key.size < 1152921504606846976) (hkm : key.size ≤ maxLen) (hv : val.size < 1152921504606846976) (hb : ((heft x + (key.size + val.size) : Nat) : Int) ≤ bud) :
    Calls Try.prog 11 #[P c, .string key, .string val] w fun e w' => ∃ (v : Value) (b : Nat) (r2 : List Item), e = .returned (.tuple #[v, .int .i64 0]) ∧ r2.length ≤ rest.length ∧ (weightI (⟨b, key, val⟩ :: x :: r2) : Int) ≤ bud ∧ Made w0 w' c m (⟨b, key, val⟩ :: x :: r2) bud (n + 1) := by
  refine (made_put h hw (by omega) hn (by rw [List.length_cons]; omega) key val hk hkm hv (by omega)).mono ?_
  rintro e w' ⟨v, b, he, _, hm⟩
  obtain ⟨r2, h1, h2, h3⟩ := used_put bud x ⟨b, key, val⟩ rest hkx (by simpa [heft] using hb)
  rw [h1] at hm
  exact ⟨v, b, r2, he, h2, h3, hm⟩
theorem next_get {w0 w : World} {c m : Nat} {x y : Item} {r2 : List Item} {bud : Int} {n : Nat} (h : Made w0 w c m (y :: x :: r2) bud n) (hkx : x.key ≠ y.key) (hs : x.key.size ≤ maxLen) :
    Calls Try.prog 14 #[P c, .string x.key] w fun e w' => ∃ r3 : List Item, e = .returned (.tuple #[.string x.val, .bool true]) ∧ r3.length ≤ r2.length + 1 ∧ weightI (x :: r3) ≤ weightI (y :: x :: r2) ∧ Made w0 w' c m (x :: r3) bud n := by
  refine (made_get h x.key hs).mono ?_
  rintro e w' ⟨he, hm⟩
  obtain ⟨h1, r3, h2, h3, h4⟩ := used_get x y r2 hkx
  rw [h1] at he
  rw [h2] at hm
  exact ⟨r3, he, h3, h4, hm⟩
set_option maxHeartbeats 4000000 in
set_option maxRecDepth 100000 in
theorem used_calls (key val : ByteArray) (A : Option Addr) (n cap : Nat) (sk sv : Nat → ByteArray) (w : World) (hk : key.size ≤ 140737488351232) (hv : val.size ≤ 140737488351232) (hn : n ≤ 9223372036854775807)
    (hA : 0 < n → ∃ b o, A = some ⟨b, o, none⟩ ∧ b < w.heap.size ∧ ∀ i, i < n → w.cell? ⟨b, o + i * 4 + 1, none⟩ = some (.string (sk i)) ∧ w.cell? ⟨b, o + i * 4 + 2, none⟩ = some (.string (sv i)))
    (hs : ∀ i, i < n → (sk i).size ≤ 140737488351232 ∧ (sv i).size ≤ 140737488351232) :
    Calls Try.prog 5 #[.string key, .string val, .slice A n cap] w fun e w' => e = .returned (.bool true) ∧ Below w.heap.size w w' := by
  have HA := hid hA
  have HS := hid hs
  clear hA hs
  go_enter Try.func5, Try.ntmps5
  go_wp2_with (go_at_call 6; refine (shown_calls _).mono ?_; rintro e w1 ⟨rfl, hb⟩; have B1 := hid hb; clear hb)
  have hB1 := B1
  go_loopg [8, 9] n (fun gg s8 s9 wr => ∃ (kk g : Nat), kk ≤ n ∧ n - kk ≤ gg ∧ g ≤ 281474976702464 ∧ s8 = .int .i64 g ∧ s9 = .int .i64 kk ∧ Hid (∀ i, i < kk → (sk i).size + (sv i).size ≤ g) ∧ Hid (Below w.heap.size w wr))
  case atStart => exact ⟨0, 0, Nat.zero_le _, by omega, by omega, rfl, rfl, hid (fun i hi => by omega), hB1⟩
  case round =>
    clear hB1 B1
    obtain ⟨kk, g, hkk, hg, hg2, rfl, rfl, HG, HB⟩ := hrel
    have HX0 : ¬ (kk < n ∧ kk < 100) → Hid (∀ i, i < n → i < 100 → (sk i).size + (sv i).size ≤ g) := fun hno => hid (fun i h1 h2 => HG.out i (by omega))
    have HX1 := hid HX0
    clear HX0
    by_cases hlt : kk < n
    · have hltz : (kk : Int) < (n : Int) := by omega
      by_cases h100 : kk < 100
      · clear HX1
        have h100z : (kk : Int) < 100 := by omega
        obtain ⟨b, o, rfl, hb, hcells⟩ := HA.out (by omega)
        have c1 : wr.cell? ⟨b, o + kk * 4 + 1, none⟩ = some (.string (sk kk)) := (HB.out.cell (p := ⟨b, o + kk * 4 + 1, none⟩) hb).trans (hcells kk hlt).1
        have c2 : wr.cell? ⟨b, o + kk * 4 + 2, none⟩ = some (.string (sv kk)) := (HB.out.cell (p := ⟨b, o + kk * 4 + 2, none⟩) hb).trans (hcells kk hlt).2
        have hsz := HS.out kk hlt
        clear hcells
        have hzs : (sk kk).size + (sv kk).size ≤ 281474976702464 := by omega
        have hz : wrap64 (((sk kk).size : Int) + ((sv kk).size : Int)) = ((sk kk).size : Int) + ((sv kk).size : Int) := by unfold wrap64; omega
        have hz3 : IntKind.i64.wrap (((sk kk).size : Int) + ((sv kk).size : Int)) = ((sk kk).size : Int) + ((sv kk).size : Int) := (wrapEq _).trans hz
        have HG2 : ∀ g2 : Nat, g ≤ g2 → (sk kk).size + (sv kk).size ≤ g2 → Hid (∀ i, i < kk + 1 → (sk i).size + (sv i).size ≤ g2) := fun g2 h1 h2 => hid (fun i hi => by
          by_cases e : i = kk
          · rw [e]; exact h2
          · have := HG.out i (by omega); omega)
        have HG3 := hid HG2
        clear HG2 HG
        generalize sk kk = k1 at c1 hz hz3 hzs hsz HG3
        generalize sv kk = v1 at c2 hz hz3 hzs hsz HG3
        by_cases hmx : (g : Int) < (k1.size : Int) + (v1.size : Int)
        · go_wp2
          go_still_tail 15, (by kernel_rfl)
          change wpList _ _ _ _ _ wr.drew
          go_wp2
          go_roundg (n - (kk + 1))
          case measure => omega
          case rel => exact ⟨kk + 1, k1.size + v1.size, by omega, by omega, by omega, by go_num, by go_num, HG3.out _ (by omega) (Nat.le_refl _), hid HB.out.drew⟩
        · go_wp2
          go_still_tail 15, (by kernel_rfl)
          change wpList _ _ _ _ _ wr.drew
          go_wp2
          go_roundg (n - (kk + 1))
          case measure => omega
          case rel => exact ⟨kk + 1, g, by omega, by omega, by omega, by go_num, by go_num, HG3.out _ (Nat.le_refl _) (by omega), hid HB.out.drew⟩
      · have h100z : ¬ (kk : Int) < 100 := by omega
        have HX := HX1.out (by omega)
        clear HX1 HG
        have hz4 : wrap64 ((key.size : Int) + (val.size : Int)) = (key.size : Int) + (val.size : Int) := by unfold wrap64; omega
        have hz5 : wrap64 ((key.size : Int) + (val.size : Int) + (g : Int)) = (key.size : Int) + (val.size : Int) + (g : Int) := by unfold wrap64; omega
        have hkm : key.size ≤ maxLen := by unfold maxLen; omega
        go_wp2_with (first | (go_at_call 8; refine (made_new ((key.size : Int) + (val.size : Int) + (g : Int)) (by omega) wr).mono ?_; rintro e w2 ⟨c, m, rfl, hm⟩; have M1 := hid (hm.since HB.out); clear hm) | (go_at_call 11; refine (first_put key val g M1.out (by omega) hkm (by omega)).mono ?_; rintro e w3 ⟨v3, b3, rfl, hm⟩; have M2 := hid hm; clear hm))
        have hbel := M2.out.below
        have hw0 : weightI [(⟨b3, key, val⟩ : Item)] < 2305843009213693952 := by rw [weight_cons]; simp only [heft, weightI, List.map_nil, List.sum_nil]; omega
        have hW0 := hid hw0
        clear M1 hz4 hz5 hbel hw0 HB
        go_loopg [11] n (fun gg s11 wr => ∃ (jj : Nat) (rest : List Item) (nn : Nat), jj ≤ n ∧ n - jj ≤ gg ∧ s11 = .int .i64 jj ∧ rest.length ≤ jj ∧ jj ≤ 100 ∧ nn ≤ jj + 1 ∧ Hid (weightI (⟨b3, key, val⟩ :: rest) < 2305843009213693952) ∧ Hid (Made w wr c m (⟨b3, key, val⟩ :: rest) ((key.size : Int) + (val.size : Int) + (g : Int)) nn))
        case atStart => exact ⟨0, [], 1, Nat.zero_le _, by omega, rfl, Nat.le_refl _, by omega, by omega, hW0, M2⟩
        case round =>
          clear M2 hW0
          obtain ⟨jj, rest, nn, hjj, hgj, rfl, hrl, hj100, hnn, HW, HM⟩ := hrel
          by_cases hlj : jj < n
          · have hljz : (jj : Int) < (n : Int) := by omega
            by_cases h1j : jj < 100
            · have h1jz : (jj : Int) < 100 := by omega
              obtain ⟨b, o, rfl, hb, hcells⟩ := HA.out (by omega)
              have c1 : wr.cell? ⟨b, o + jj * 4 + 1, none⟩ = some (.string (sk jj)) := (HM.out.below.cell (p := ⟨b, o + jj * 4 + 1, none⟩) hb).trans (hcells jj hlj).1
              have c2 : wr.cell? ⟨b, o + jj * 4 + 2, none⟩ = some (.string (sv jj)) := (HM.out.below.cell (p := ⟨b, o + jj * 4 + 2, none⟩) hb).trans (hcells jj hlj).2
              have hsz := HS.out jj hlj
              have hgr := HX.out jj hlj h1j
              have SB0 : (∀ W : World, Below w.heap.size w W → W.cell? ⟨b, o + jj * 4 + 1, none⟩ = some (.string (sk jj))) ∧ (∀ W : World, Below w.heap.size w W → W.cell? ⟨b, o + jj * 4 + 2, none⟩ = some (.string (sv jj))) := ⟨fun W hW => (hW.cell (p := ⟨b, o + jj * 4 + 1, none⟩) hb).trans (hcells jj hlj).1, fun W hW => (hW.cell (p := ⟨b, o + jj * 4 + 2, none⟩) hb).trans (hcells jj hlj).2⟩
              have SB := hid SB0
              clear hcells SB0
              generalize sk jj = k1 at c1 hsz hgr SB
              generalize sv jj = v1 at c2 hsz hgr SB
              by_cases hke : key = k1
              · subst hke
                go_wp2
                go_roundg (n - (jj + 1))
                case measure => omega
                case rel => exact ⟨jj + 1, rest, nn, by omega, by omega, by go_num, by omega, by omega, by omega, HW, HM⟩
              · have hbe : (k1.toList == key.toList) = false := beq_eq_false_iff_ne.2 (fun e => hke (toList_inj e.symm))
                have hbe2 : (k1.toList = key.toList) = False := eq_false (fun e => hke (toList_inj e.symm))
                have hkm1 : k1.size ≤ maxLen := by unfold maxLen; omega
                have HP := hid (next_put (HM.out.keep ((Below.refl _ wr).drew)) HW.out (by unfold maxLen; omega) (by omega) k1 v1 hke (by omega) hkm1 (by omega) (by simp only [heft]; omega))
                have HG := hid (fun (W : World) (y : Item) (r2 : List Item) (hk1 : key ≠ y.key) (hM : Made w W c m (y :: ⟨b3, key, val⟩ :: r2) ((key.size : Int) + (val.size : Int) + (g : Int)) (nn + 1)) => next_get hM hk1 hkm)
                go_wp2
                go_region_held3 (fun w_ => w_.cell? ⟨b, o + jj * 4 + 1, none⟩ = some (.string k1) ∧ w_.cell? ⟨b, o + jj * 4 + 2, none⟩ = some (.string v1)) (go_keep) (first | (go_at_call 11; refine HP.out.mono ?_; rintro e w4 ⟨v4, b4, r4, rfl, hl4, hb4, hm⟩; have M4 := hid hm; have W4 := hid hb4; have s4a : w4.cell? ⟨b, o + jj * 4 + 1, none⟩ = some (.string k1) := SB.out.1 w4 hm.below; have s4b : w4.cell? ⟨b, o + jj * 4 + 2, none⟩ = some (.string v1) := SB.out.2 w4 hm.below; clear hm hb4))
                go_wp2_with (go_at_call 14; refine (HG.out _ _ _ hke M4.out).mono ?_; rintro e w5 ⟨r5, rfl, hl5, hw5, hm⟩; have M5 := hid hm; have W5 := hid (show weightI (⟨b3, key, val⟩ :: r5) < 2305843009213693952 by have := W4.out; omega); clear hm hw5)
                go_roundg (n - (jj + 1))
                case measure => omega
                case rel => exact ⟨jj + 1, r5, nn + 1, by omega, by omega, by go_num, by omega, by omega, by omega, W5, M5⟩
            · have h1jz : ¬ (jj : Int) < 100 := by omega
              go_wp2
              go_ret
              exact ⟨rfl, HM.out.below⟩
          · have hljz : ¬ (jj : Int) < (n : Int) := by omega
            go_wp2
            go_ret
            exact ⟨rfl, HM.out.below⟩
    · have hltz : ¬ (kk : Int) < (n : Int) := by omega
      have HX := HX1.out (by omega)
      clear HX1 HG
      have hz4 : wrap64 ((key.size : Int) + (val.size : Int)) = (key.size : Int) + (val.size : Int) := by unfold wrap64; omega
      have hz5 : wrap64 ((key.size : Int) + (val.size : Int) + (g : Int)) = (key.size : Int) + (val.size : Int) + (g : Int) := by unfold wrap64; omega
      have hkm : key.size ≤ maxLen := by unfold maxLen; omega
      go_wp2_with (first | (go_at_call 8; refine (made_new ((key.size : Int) + (val.size : Int) + (g : Int)) (by omega) wr).mono ?_; rintro e w2 ⟨c, m, rfl, hm⟩; have M1 := hid (hm.since HB.out); clear hm) | (go_at_call 11; refine (first_put key val g M1.out (by omega) hkm (by omega)).mono ?_; rintro e w3 ⟨v3, b3, rfl, hm⟩; have M2 := hid hm; clear hm))
      have hbel := M2.out.below
      have hw0 : weightI [(⟨b3, key, val⟩ : Item)] < 2305843009213693952 := by rw [weight_cons]; simp only [heft, weightI, List.map_nil, List.sum_nil]; omega
      have hW0 := hid hw0
      clear M1 hz4 hz5 hbel hw0 HB
      go_loopg [11] n (fun gg s11 wr => ∃ (jj : Nat) (rest : List Item) (nn : Nat), jj ≤ n ∧ n - jj ≤ gg ∧ s11 = .int .i64 jj ∧ rest.length ≤ jj ∧ jj ≤ 100 ∧ nn ≤ jj + 1 ∧ Hid (weightI (⟨b3, key, val⟩ :: rest) < 2305843009213693952) ∧ Hid (Made w wr c m (⟨b3, key, val⟩ :: rest) ((key.size : Int) + (val.size : Int) + (g : Int)) nn))
      case atStart => exact ⟨0, [], 1, Nat.zero_le _, by omega, rfl, Nat.le_refl _, by omega, by omega, hW0, M2⟩
      case round =>
        clear M2 hW0
        obtain ⟨jj, rest, nn, hjj, hgj, rfl, hrl, hj100, hnn, HW, HM⟩ := hrel
        by_cases hlj : jj < n
        · have hljz : (jj : Int) < (n : Int) := by omega
          by_cases h1j : jj < 100
          · have h1jz : (jj : Int) < 100 := by omega
            obtain ⟨b, o, rfl, hb, hcells⟩ := HA.out (by omega)
            have c1 : wr.cell? ⟨b, o + jj * 4 + 1, none⟩ = some (.string (sk jj)) := (HM.out.below.cell (p := ⟨b, o + jj * 4 + 1, none⟩) hb).trans (hcells jj hlj).1
            have c2 : wr.cell? ⟨b, o + jj * 4 + 2, none⟩ = some (.string (sv jj)) := (HM.out.below.cell (p := ⟨b, o + jj * 4 + 2, none⟩) hb).trans (hcells jj hlj).2
            have hsz := HS.out jj hlj
            have hgr := HX.out jj hlj h1j
            have SB0 : (∀ W : World, Below w.heap.size w W → W.cell? ⟨b, o + jj * 4 + 1, none⟩ = some (.string (sk jj))) ∧ (∀ W : World, Below w.heap.size w W → W.cell? ⟨b, o + jj * 4 + 2, none⟩ = some (.string (sv jj))) := ⟨fun W hW => (hW.cell (p := ⟨b, o + jj * 4 + 1, none⟩) hb).trans (hcells jj hlj).1, fun W hW => (hW.cell (p := ⟨b, o + jj * 4 + 2, none⟩) hb).trans (hcells jj hlj).2⟩
            have SB := hid SB0
            clear hcells SB0
            generalize sk jj = k1 at c1 hsz hgr SB
            generalize sv jj = v1 at c2 hsz hgr SB
            by_cases hke : key = k1
            · subst hke
              go_wp2
              go_roundg (n - (jj + 1))
              case measure => omega
              case rel => exact ⟨jj + 1, rest, nn, by omega, by omega, by go_num, by omega, by omega, by omega, HW, HM⟩
            · have hbe : (k1.toList == key.toList) = false := beq_eq_false_iff_ne.2 (fun e => hke (toList_inj e.symm))
              have hbe2 : (k1.toList = key.toList) = False := eq_false (fun e => hke (toList_inj e.symm))
              have hkm1 : k1.size ≤ maxLen := by unfold maxLen; omega
              have HP := hid (next_put (HM.out.keep ((Below.refl _ wr).drew)) HW.out (by unfold maxLen; omega) (by omega) k1 v1 hke (by omega) hkm1 (by omega) (by simp only [heft]; omega))
              have HG := hid (fun (W : World) (y : Item) (r2 : List Item) (hk1 : key ≠ y.key) (hM : Made w W c m (y :: ⟨b3, key, val⟩ :: r2) ((key.size : Int) + (val.size : Int) + (g : Int)) (nn + 1)) => next_get hM hk1 hkm)
              go_wp2
              go_region_held3 (fun w_ => w_.cell? ⟨b, o + jj * 4 + 1, none⟩ = some (.string k1) ∧ w_.cell? ⟨b, o + jj * 4 + 2, none⟩ = some (.string v1)) (go_keep) (first | (go_at_call 11; refine HP.out.mono ?_; rintro e w4 ⟨v4, b4, r4, rfl, hl4, hb4, hm⟩; have M4 := hid hm; have W4 := hid hb4; have s4a : w4.cell? ⟨b, o + jj * 4 + 1, none⟩ = some (.string k1) := SB.out.1 w4 hm.below; have s4b : w4.cell? ⟨b, o + jj * 4 + 2, none⟩ = some (.string v1) := SB.out.2 w4 hm.below; clear hm hb4))
              go_wp2_with (go_at_call 14; refine (HG.out _ _ _ hke M4.out).mono ?_; rintro e w5 ⟨r5, rfl, hl5, hw5, hm⟩; have M5 := hid hm; have W5 := hid (show weightI (⟨b3, key, val⟩ :: r5) < 2305843009213693952 by have := W4.out; omega); clear hm hw5)
              go_roundg (n - (jj + 1))
              case measure => omega
              case rel => exact ⟨jj + 1, r5, nn + 1, by omega, by omega, by go_num, by omega, by omega, by omega, W5, M5⟩
          · have h1jz : ¬ (jj : Int) < 100 := by omega
            go_wp2
            go_ret
            exact ⟨rfl, HM.out.below⟩
        · have hljz : ¬ (jj : Int) < (n : Int) := by omega
          go_wp2
          go_ret
          exact ⟨rfl, HM.out.below⟩
end Go.Proofs.Ytbiejjncjgapmaa.L
