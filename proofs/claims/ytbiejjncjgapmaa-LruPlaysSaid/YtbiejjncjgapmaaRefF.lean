/- The reference's cache: Put. -/
import Derived.Test.YtbiejjncjgapmaaRefE
namespace Go.Proofs.Ytbiejjncjgapmaa.L
open Go.RowKit Go.Lib
open Go.Proofs.YtbiejjncjgapmaaW.PrintWords Go.Proofs.YtbiejjncjgapmaaW.PrintLast Go.Proofs.YtbiejjncjgapmaaW.PrintMore
section
variable {w : World} {r : Nat} {v : Value} {os : List Item} {bud : Int}
set_option maxRecDepth 100000 in
theorem ref_big (h : RefAt w r v os bud) (key val : ByteArray) (hk : key.size < 1152921504606846976) (hv : val.size < 1152921504606846976) (hb : bud < (key.size : Int) + (val.size : Int)) :
    Calls Try.prog 12 #[P r, .string key, .string val] w fun e w' => e = .returned (.tuple #[.slice none 0 0, .int .i64 70]) ∧ w' = w := by
  have c1 := h.c1
  have hz : wrap64 ((key.size : Int) + (val.size : Int)) = (key.size : Int) + (val.size : Int) := by unfold wrap64; omega
  clear h
  go_enter Try.func12, Try.ntmps12
  go_wp2
  go_ret2
  exact ⟨rfl, rfl⟩
theorem text_off {u : Value} {base : Nat} {ok : Nat → Prop} {acc : List ByteArray} (h : RefAt w r v os bud) (hu : Kd.R Kd.string 9 w base ok u acc) (k : Nat) (hk : v.ownBlock = some k) : u.ownBlock ≠ some k := by
  intro e
  obtain ⟨i1, o1⟩ := Kd.R_own h.row
  obtain ⟨i2, o2⟩ := Kd.R_own hu
  obtain ⟨c1, h1⟩ := own_typed o1 k hk
  obtain ⟨c2, h2⟩ := own_typed o2 k e
  rw [h1] at h2
  injection h2 with h2
  injection h2 with _ h2
  exact absurd h2 (by decide)
theorem drawn_of {own : List Nat} {w w' : World} (h : Drawn0 w w') : Fr own w w' := by
  obtain ⟨q, rfl⟩ := h
  exact Fr.of_below (pw_below_drewN (Below.refl _ _) q) own
theorem RefAt.drawn {w' : World} (h : RefAt w r v os bud) (hd : Drawn0 w w') : RefAt w' r v os bud := by
  obtain ⟨q, rfl⟩ := hd
  exact h.same rfl
theorem ev_stop {bud : Int} {o : List Item} (h : ¬ bud < (weightI o : Int)) : evR bud o.reverse = (o.reverse, []) := by
  cases hrv : o.reverse with
  | nil => rfl
  | cons x r =>
    rw [evR, if_neg]
    rw [← hrv, weight_reverse]; exact h
theorem ev_go {bud : Int} {xs : List Item} {e : Item} (h : bud < (weightI (xs ++ [e]) : Int)) : evR bud (xs ++ [e]).reverse = ((evR bud xs.reverse).1, e.key :: (evR bud xs.reverse).2) := by
  have hrv : (xs ++ [e]).reverse = e :: xs.reverse := by simp
  have hwr : weightI (e :: xs.reverse) = weightI (xs ++ [e]) := by rw [← hrv, weight_reverse]
  rw [hrv, evR, if_pos (by rw [hwr]; exact h)]
theorem wrap_back1 (n : Nat) (h : n < 4294967296) : IntKind.i64.wrap (((n + 1 : Nat) : Int) - 1) = (n : Int) := by
  rw [IntKind.wrap_i64]; omega
set_option maxHeartbeats 8000000 in
set_option maxRecDepth 100000 in
theorem ref_put (h : RefAt w r v os bud) (hn : (os.map (·.key)).Nodup) (hw : weightI os < 2305843009213693952) (hbud : 0 ≤ bud) (hos : os.length < 4294967294) (key val : ByteArray) (hk : key.size < 1152921504606846976) (hv : val.size < 1152921504606846976) (hb : ¬ bud < (key.size : Int) + (val.size : Int)) (b : Nat) :
    Calls Try.prog 12 #[P r, .string key, .string val] w fun e w' => ∃ u : Value, e = .returned (.tuple #[u, .int .i64 0]) ∧ Kd.R Kd.string 9 w' w.heap.size (fun k => k ≠ r) u (evR bud (⟨b, key, val⟩ :: outI os key).reverse).2 ∧
      ∃ v', RefAt w' r v' (evR bud (⟨b, key, val⟩ :: outI os key).reverse).1.reverse bud ∧ Fr [r] w w' ∧ Newer w v v' := by
  have c1 := h.c1
  have hz : wrap64 ((key.size : Int) + (val.size : Int)) = (key.size : Int) + (val.size : Int) := by unfold wrap64; omega
  have HH := hid h
  have hrl := h.lt
  have hwl : weightI (outI os key) ≤ weightI os := weight_filter os key
  have hlo : (outI os key).length ≤ os.length := List.length_filter_le _ _
  have hwo : weightI (⟨b, key, val⟩ :: outI os key) < 4611686018427387904 := by rw [weight_cons]; show key.size + val.size + _ < _; omega
  have hll : (⟨b, key, val⟩ :: outI os key : List Item).length < 4294967295 := by rw [List.length_cons]; omega
  have HR0 := hid (fun (W : World) => Kd.R_nil Kd.string 9 W w.heap.size (fun k => k ≠ r))
  cases hf : findI os key with
  | some x =>
    obtain ⟨xs, ys, ho, hout⟩ := find_split hf hn
    have HFi := hid (find_is h hn ho (find_key hf).2)
    have HO := hid (show RefAt w r v (xs ++ x :: ys) bud ∧ (xs ++ x :: ys).length < 4294967296 from by rw [← ho]; exact ⟨h, by omega⟩)
    have HX := hid (show (xs ++ ys).length < 4294967296 from by rw [← hout]; omega)
    have HOut := hid hout
    clear h hn hf ho hout
    go_enter Try.func12, Try.ntmps12
    go_wp2_with (first | (go_at_call 25; refine HFi.out.mono ?_; rintro e w_ ⟨rfl, hww⟩; have hww2 := hww.symm; subst hww2) | (go_at_call 26; refine (out_calls xs ys x HO.out.1 HO.out.2).mono ?_; rintro e w1 ⟨rfl, v1, hr1, hf1, hn1⟩; have R1 := hid hr1; have F1 := hid hf1; have N1 := hid (Newer.of w v hn1); clear hr1 hf1 hn1) | (go_at_call 27; refine (first_calls ⟨b, key, val⟩ R1.out HX.out).mono ?_; rintro e w2 ⟨rfl, v2, hr2, hf2, hn2⟩; have R2 := hid (show RefAt w2 r v2 (⟨b, key, val⟩ :: outI os key) bud from by rw [HOut.out]; exact hr2); have F2 := hid (F1.out.trans hf2 (fun _ hk => .inl hk)); have N2 := hid (N1.out.trans (Newer.of _ _ hn2) F1.out.size); clear hr2 hf2 hn2) | (go_at_call 19; refine (ref_bytes R2.out hwo).mono ?_; rintro e w9 ⟨rfl, hd⟩; have R9 := hid (R2.out.drawn hd); have F9 := hid (F2.out.trans (drawn_of hd : Fr [r] _ _) (fun _ hk => .inl hk)); clear hd))
    have N9 := N2
    generalize hv9 : v2 = v9 at R9 N9
    clear R2 F2 N2 R1 F1 N1 HFi HO HX HOut hv9 HH c1
    generalize ho0 : (⟨b, key, val⟩ :: outI os key : List Item) = o0 at *
    go_loopg [9, 10] o0.length (fun gg s9 s10 wr => ∃ (o : List Item) (acc : List ByteArray) (v1 : Value), o.length ≤ gg ∧ acc.length + o.length < 4294967296 ∧ s10 = .int .i64 (weightI o) ∧ Hid (RefAt wr r v1 o bud) ∧ weightI o < 4611686018427387904 ∧ Hid (Kd.R Kd.string 9 wr w.heap.size (fun k => k ≠ r) s9 acc) ∧ Hid (Fr [r] w wr) ∧ Hid (Newer w v v1) ∧ Hid ((evR bud o.reverse).1 = (evR bud o0.reverse).1 ∧ acc ++ (evR bud o.reverse).2 = (evR bud o0.reverse).2))
    case atStart => exact ⟨o0, [], v9, Nat.le_refl _, by simp; omega, rfl, R9, hwo, HR0.out _, F9, N9, hid ⟨rfl, rfl⟩⟩
    case round =>
      clear R9 HR0 F9 N9 hwo
      obtain ⟨o, acc, v1, hg, hal, rfl, HC, hwt, HR, HF, HW, HE⟩ := hrel
      obtain ⟨A2, c2, hv2⟩ := Kd.R_slice HR.out
      subst hv2
      obtain ⟨A, c, hv1, hlc, _⟩ := HC.out.slice
      have z0 := HC.out.c0
      have z1 := HC.out.c1
      by_cases hgt : bud < (weightI o : Int)
      · obtain ⟨xs, e, rfl⟩ : ∃ xs e, o = xs ++ [e] := by
          rcases List.eq_nil_or_concat o with h0 | ⟨xs, e, h0⟩
          · rw [h0] at hgt
            simp [weightI] at hgt
            omega
          · exact ⟨xs, e, by rw [h0, List.concat_eq_append]⟩
        have hln : (xs ++ [e]).length = xs.length + 1 := by simp
        have hxl : xs.length < (xs ++ [e]).length := by omega
        obtain ⟨g, rfl, hgl, _, hcell⟩ := text_at HC.out.row hv1 hxl
        have k0 := (hcell xs.length hxl).1
        have k1 := (hcell xs.length hxl).2
        have he : (xs ++ [e])[xs.length] = e := by simp
        rw [he] at k0 k1
        rw [hv1, hln] at z0
        rw [hln] at hg hal hlc
        have E6 := hid (ev_go hgt)
        have HV1 := hid hv1
        have hrw := HC.out.lt
        have hrg : r ≠ g := fun e => HC.out.row_ne g (by rw [hv1]; rfl) e.symm
        have hwx : weightI xs ≤ weightI (xs ++ [e]) := by rw [weight_append]; omega
        have hwb := wrap_back1 xs.length (by omega)
        have hwb2 : IntKind.i64.wrap ((xs.length : Int) + 1 - 1) = (xs.length : Int) := by rw [IntKind.wrap_i64]; omega
        clear hcell he hln hxl hv1
        go_wp2
        go_region
        all_goals (
          have C5 := hid (show RefAt (wr.alloc (.cells #[.string e.key, .string e.val] 62)).drew r v1 (xs ++ [e]) bud from (HC.out.fr (Fr.alloc [] wr _) (by simp) (fun k _ => by simp)).same rfl)
          have F5 := hid (HF.out.trans (Fr.alloc [r] wr (.cells #[.string e.key, .string e.val] 62)) (fun _ hk => .inl hk)).drew
          have R5 := hid (Kd.R_drew (Kd.R_step HR.out (fun k hok hlt => (Fr.alloc [] wr (.cells #[.string e.key, .string e.val] 62)).keep k hlt (by simp))))
          have b5 : (wr.alloc (.cells #[.string e.key, .string e.val] 62)).drew.cell? ⟨wr.heap.size, 0, none⟩ = some (.string e.key) := (cell_of (MapKept.heap_alloc wr (.cells #[.string e.key, .string e.val] 62)).1 0).trans rfl
          clear HC HF HR k0 k1 z0 z1
          generalize (wr.alloc (.cells #[.string e.key, .string e.val] 62)).drew = wd at C5 F5 R5 b5 ⊢
          have hbw : w.heap.size ≤ wd.heap.size := F5.out.size
          have hnew := hid (fun k (hk : wd.heap.size ≤ k) => (show k ≠ r from by omega))
          have HO := hid (show ∀ (W : World), RefAt W r v1 (xs ++ [e]) bud → W.cell? ⟨r, 0, none⟩ = some (.slice (some ⟨g, 0, none⟩) (xs.length + 1) c) from fun W hW => by
            have h := hW.c0
            rw [HV1.out] at h
            rw [h]; simp)
          have hl5 : (xs ++ [e]).length < 4294967296 := by simp; omega
          have hwx2 : weightI (xs ++ []) < 4611686018427387904 := by rw [List.append_nil]; omega
          go_wp2_with (first
            | ((with_reducible refine gate_builtin (b := .append) (xs := #[.tmp 55, .tmp 58]) rfl ?_); (try (refine gate_guard (by rfl) ?_; dsimp only)); at_builtin; refine Kd.R_append Kd.string (w0 := wd) w.heap.size rfl (.tmp 55) (.tmp 58) 28 9 (.string ⟨#[]⟩) 16 rfl Try.underlying28 info9 rfl (by decide) (by omega) (.slice A2 acc.length c2) acc e.key [.string e.key] (fun k => k ≠ r) (fun _ => False) rfl rfl ?aP (fun _ hk => hk.elim) hnew.out ?aO ?aB ?aS ?aL ?_; (case aP => exact rfl); (case aO => exact R5.out); (case aB => exact Below.refl _ _); (case aS => exact hbw); (case aL => omega); intro v3 w3 ho hb hg1 hat; have R6 := hid ho; have C6 := hid (C5.out.fr (Fr.grown hg1) (fun hm => R5.out.1 r (by simpa using hm) rfl) (fun k hk hm => text_off C5.out R5.out k hk (by simpa using hm))); have F6 := hid (F5.out.trans (Fr.grown hg1) (fun k hk => .inr (Kd.R_base R5.out k (by simpa using hk)))); have d6 := HO.out _ C6.out; clear ho hb hg1 hat)
            | (go_at_call 26; refine (out_calls xs [] e C6.out hl5).mono ?_; rintro e_ w4 ⟨rfl, v4, hr4, hf4, hn4⟩; have C7 := hid hr4; have F7 := hid (F6.out.trans hf4 (fun k hk => .inl hk)); have N7 := hid (HW.out.trans (Newer.of _ _ hn4) F6.out.size); have R7 := hid (Kd.R_step R6.out (fun k hok hlt => hf4.keep k hlt (by simpa using hok))); clear hr4 hf4 hn4)
            | (go_at_call 19; refine (ref_bytes C7.out hwx2).mono ?_; rintro e_ w5 ⟨rfl, hd⟩; have C8 := hid (C7.out.drawn hd); have F8 := hid (F7.out.trans (drawn_of hd : Fr [r] _ _) (fun _ hk => .inl hk)); have R8 := hid (Kd.R_step R7.out (fun k hok hlt => (drawn_of hd : Fr [] _ _).keep k hlt (by simp))); clear hd))
          go_roundg xs.length
          case measure => omega
          case rel => exact ⟨xs, acc ++ [e.key], v4, Nat.le_refl _, by rw [List.length_append, List.length_singleton]; omega, rfl, by have := C8.out; rw [List.append_nil] at this; exact hid this, by rw [List.append_nil] at hwx2; exact hwx2, R8, F8, N7, hid (by have := HE.out; rw [E6.out] at this; exact ⟨this.1, by rw [List.append_assoc]; exact this.2⟩)⟩)
      · have hE := HE.out
        rw [ev_stop hgt] at hE
        simp only [List.append_nil] at hE
        have HE2 := hid hE
        clear hE HE
        go_wp2
        go_ret2
        refine ⟨_, rfl, ?_, v1, ?_, HF.out, HW.out⟩
        · rw [← HE2.out.2]
          exact HR.out
        · rw [← HE2.out.1, List.reverse_reverse]
          exact HC.out
  | none =>
    have HFi := hid (find_not h key hf)
    have HOut := hid (out_none hf)
    clear h hn hf
    go_enter Try.func12, Try.ntmps12
    go_wp2_with (first | (go_at_call 25; refine HFi.out.mono ?_; rintro e w_ ⟨rfl, hww⟩; have hww2 := hww.symm; subst hww2) | (go_at_call 27; refine (first_calls ⟨b, key, val⟩ HH.out (by omega)).mono ?_; rintro e w2 ⟨rfl, v2, hr2, hf2, hn2⟩; have R2 := hid (show RefAt w2 r v2 (⟨b, key, val⟩ :: outI os key) bud from by rw [HOut.out]; exact hr2); have F2 := hid hf2; have N2 := hid (Newer.of w v hn2); clear hr2 hf2 hn2) | (go_at_call 19; refine (ref_bytes R2.out hwo).mono ?_; rintro e w9 ⟨rfl, hd⟩; have R9 := hid (R2.out.drawn hd); have F9 := hid (F2.out.trans (drawn_of hd : Fr [r] _ _) (fun _ hk => .inl hk)); clear hd))
    have N9 := N2
    generalize hv9 : v2 = v9 at R9 N9
    clear R2 F2 N2 HFi HOut hv9 HH c1
    generalize ho0 : (⟨b, key, val⟩ :: outI os key : List Item) = o0 at *
    go_loopg [9, 10] o0.length (fun gg s9 s10 wr => ∃ (o : List Item) (acc : List ByteArray) (v1 : Value), o.length ≤ gg ∧ acc.length + o.length < 4294967296 ∧ s10 = .int .i64 (weightI o) ∧ Hid (RefAt wr r v1 o bud) ∧ weightI o < 4611686018427387904 ∧ Hid (Kd.R Kd.string 9 wr w.heap.size (fun k => k ≠ r) s9 acc) ∧ Hid (Fr [r] w wr) ∧ Hid (Newer w v v1) ∧ Hid ((evR bud o.reverse).1 = (evR bud o0.reverse).1 ∧ acc ++ (evR bud o.reverse).2 = (evR bud o0.reverse).2))
    case atStart => exact ⟨o0, [], v9, Nat.le_refl _, by simp; omega, rfl, R9, hwo, HR0.out _, F9, N9, hid ⟨rfl, rfl⟩⟩
    case round =>
      clear R9 HR0 F9 N9 hwo
      obtain ⟨o, acc, v1, hg, hal, rfl, HC, hwt, HR, HF, HW, HE⟩ := hrel
      obtain ⟨A2, c2, hv2⟩ := Kd.R_slice HR.out
      subst hv2
      obtain ⟨A, c, hv1, hlc, _⟩ := HC.out.slice
      have z0 := HC.out.c0
      have z1 := HC.out.c1
      by_cases hgt : bud < (weightI o : Int)
      · obtain ⟨xs, e, rfl⟩ : ∃ xs e, o = xs ++ [e] := by
          rcases List.eq_nil_or_concat o with h0 | ⟨xs, e, h0⟩
          · rw [h0] at hgt
            simp [weightI] at hgt
            omega
          · exact ⟨xs, e, by rw [h0, List.concat_eq_append]⟩
        have hln : (xs ++ [e]).length = xs.length + 1 := by simp
        have hxl : xs.length < (xs ++ [e]).length := by omega
        obtain ⟨g, rfl, hgl, _, hcell⟩ := text_at HC.out.row hv1 hxl
        have k0 := (hcell xs.length hxl).1
        have k1 := (hcell xs.length hxl).2
        have he : (xs ++ [e])[xs.length] = e := by simp
        rw [he] at k0 k1
        rw [hv1, hln] at z0
        rw [hln] at hg hal hlc
        have E6 := hid (ev_go hgt)
        have HV1 := hid hv1
        have hrw := HC.out.lt
        have hrg : r ≠ g := fun e => HC.out.row_ne g (by rw [hv1]; rfl) e.symm
        have hwx : weightI xs ≤ weightI (xs ++ [e]) := by rw [weight_append]; omega
        have hwb := wrap_back1 xs.length (by omega)
        have hwb2 : IntKind.i64.wrap ((xs.length : Int) + 1 - 1) = (xs.length : Int) := by rw [IntKind.wrap_i64]; omega
        clear hcell he hln hxl hv1
        go_wp2
        go_region
        all_goals (
          have C5 := hid (show RefAt (wr.alloc (.cells #[.string e.key, .string e.val] 62)).drew r v1 (xs ++ [e]) bud from (HC.out.fr (Fr.alloc [] wr _) (by simp) (fun k _ => by simp)).same rfl)
          have F5 := hid (HF.out.trans (Fr.alloc [r] wr (.cells #[.string e.key, .string e.val] 62)) (fun _ hk => .inl hk)).drew
          have R5 := hid (Kd.R_drew (Kd.R_step HR.out (fun k hok hlt => (Fr.alloc [] wr (.cells #[.string e.key, .string e.val] 62)).keep k hlt (by simp))))
          have b5 : (wr.alloc (.cells #[.string e.key, .string e.val] 62)).drew.cell? ⟨wr.heap.size, 0, none⟩ = some (.string e.key) := (cell_of (MapKept.heap_alloc wr (.cells #[.string e.key, .string e.val] 62)).1 0).trans rfl
          clear HC HF HR k0 k1 z0 z1
          generalize (wr.alloc (.cells #[.string e.key, .string e.val] 62)).drew = wd at C5 F5 R5 b5 ⊢
          have hbw : w.heap.size ≤ wd.heap.size := F5.out.size
          have hnew := hid (fun k (hk : wd.heap.size ≤ k) => (show k ≠ r from by omega))
          have HO := hid (show ∀ (W : World), RefAt W r v1 (xs ++ [e]) bud → W.cell? ⟨r, 0, none⟩ = some (.slice (some ⟨g, 0, none⟩) (xs.length + 1) c) from fun W hW => by
            have h := hW.c0
            rw [HV1.out] at h
            rw [h]; simp)
          have hl5 : (xs ++ [e]).length < 4294967296 := by simp; omega
          have hwx2 : weightI (xs ++ []) < 4611686018427387904 := by rw [List.append_nil]; omega
          go_wp2_with (first
            | ((with_reducible refine gate_builtin (b := .append) (xs := #[.tmp 55, .tmp 58]) rfl ?_); (try (refine gate_guard (by rfl) ?_; dsimp only)); at_builtin; refine Kd.R_append Kd.string (w0 := wd) w.heap.size rfl (.tmp 55) (.tmp 58) 28 9 (.string ⟨#[]⟩) 16 rfl Try.underlying28 info9 rfl (by decide) (by omega) (.slice A2 acc.length c2) acc e.key [.string e.key] (fun k => k ≠ r) (fun _ => False) rfl rfl ?aP (fun _ hk => hk.elim) hnew.out ?aO ?aB ?aS ?aL ?_; (case aP => exact rfl); (case aO => exact R5.out); (case aB => exact Below.refl _ _); (case aS => exact hbw); (case aL => omega); intro v3 w3 ho hb hg1 hat; have R6 := hid ho; have C6 := hid (C5.out.fr (Fr.grown hg1) (fun hm => R5.out.1 r (by simpa using hm) rfl) (fun k hk hm => text_off C5.out R5.out k hk (by simpa using hm))); have F6 := hid (F5.out.trans (Fr.grown hg1) (fun k hk => .inr (Kd.R_base R5.out k (by simpa using hk)))); have d6 := HO.out _ C6.out; clear ho hb hg1 hat)
            | (go_at_call 26; refine (out_calls xs [] e C6.out hl5).mono ?_; rintro e_ w4 ⟨rfl, v4, hr4, hf4, hn4⟩; have C7 := hid hr4; have F7 := hid (F6.out.trans hf4 (fun k hk => .inl hk)); have N7 := hid (HW.out.trans (Newer.of _ _ hn4) F6.out.size); have R7 := hid (Kd.R_step R6.out (fun k hok hlt => hf4.keep k hlt (by simpa using hok))); clear hr4 hf4 hn4)
            | (go_at_call 19; refine (ref_bytes C7.out hwx2).mono ?_; rintro e_ w5 ⟨rfl, hd⟩; have C8 := hid (C7.out.drawn hd); have F8 := hid (F7.out.trans (drawn_of hd : Fr [r] _ _) (fun _ hk => .inl hk)); have R8 := hid (Kd.R_step R7.out (fun k hok hlt => (drawn_of hd : Fr [] _ _).keep k hlt (by simp))); clear hd))
          go_roundg xs.length
          case measure => omega
          case rel => exact ⟨xs, acc ++ [e.key], v4, Nat.le_refl _, by rw [List.length_append, List.length_singleton]; omega, rfl, by have := C8.out; rw [List.append_nil] at this; exact hid this, by rw [List.append_nil] at hwx2; exact hwx2, R8, F8, N7, hid (by have := HE.out; rw [E6.out] at this; exact ⟨this.1, by rw [List.append_assoc]; exact this.2⟩)⟩)
      · have hE := HE.out
        rw [ev_stop hgt] at hE
        simp only [List.append_nil] at hE
        have HE2 := hid hE
        clear hE HE
        go_wp2
        go_ret2
        refine ⟨_, rfl, ?_, v1, ?_, HF.out, HW.out⟩
        · rw [← HE2.out.2]
          exact HR.out
        · rw [← HE2.out.1, List.reverse_reverse]
          exact HC.out
end
end Go.Proofs.Ytbiejjncjgapmaa.L
