/- The reference's cache: Drop. -/
import Derived.Test.YtbiejjncjgapmaaRefD
namespace Go.Proofs.Ytbiejjncjgapmaa.L
open Go.RowKit Go.Lib
open Go.Proofs.YtbiejjncjgapmaaW.PrintWords Go.Proofs.YtbiejjncjgapmaaW.PrintLast Go.Proofs.YtbiejjncjgapmaaW.PrintMore
section
variable {w : World} {r : Nat} {v : Value} {os : List Item} {bud : Int}
theorem idx_of {os xs ys : List Item} {x : Item} {s : ByteArray} (hn : (os.map (·.key)).Nodup) (he : os = xs ++ x :: ys) (hk : x.key = s) {i : Int} (h : FindsAt os s i) : i = (xs.length : Int) := by
  have h1 : os.map (·.key) = xs.map (·.key) ++ s :: ys.map (·.key) := by rw [he, List.map_append, List.map_cons, hk]
  have g1 : (os.map (·.key))[xs.length]? = some s := by rw [h1, List.getElem?_append_right (by simp)]; simp
  have l1 : xs.length < (os.map (·.key)).length := by rw [h1]; simp
  rcases h with ⟨_, h⟩ | ⟨_, xs', x', ys', he', hil, hk', h⟩
  · exact absurd hk (by
      unfold findI at h
      have := List.find?_eq_none.1 h x (by rw [he]; simp)
      simpa using this)
  · have h2 : os.map (·.key) = xs'.map (·.key) ++ s :: ys'.map (·.key) := by rw [he', List.map_append, List.map_cons, hk']
    have g2 : (os.map (·.key))[xs'.length]? = some s := by rw [h2, List.getElem?_append_right (by simp)]; simp
    have := (List.getElem?_inj l1 hn).1 (g1.trans g2.symm)
    omega
theorem find_not (h : RefAt w r v os bud) (s : ByteArray) (hf : findI os s = none) :
    Calls Try.prog 25 #[P r, .string s] w fun e w' => e = .returned (.int .i64 (-1)) ∧ w' = w := by
  refine (find_calls h s).mono ?_
  rintro e w' ⟨⟨i, he, hi⟩, hw⟩
  rcases hi with ⟨h1, _⟩ | ⟨_, xs, x, ys, _, _, _, h2⟩
  · rw [h1] at he; exact ⟨he, hw⟩
  · rw [hf] at h2; cases h2
theorem find_is (h : RefAt w r v os bud) (hn : (os.map (·.key)).Nodup) {xs ys : List Item} {x : Item} {s : ByteArray} (he : os = xs ++ x :: ys) (hk : x.key = s) :
    Calls Try.prog 25 #[P r, .string s] w fun e w' => e = .returned (.int .i64 (xs.length : Int)) ∧ w' = w := by
  refine (find_calls h s).mono ?_
  rintro e w' ⟨⟨i, he', hi⟩, hw⟩
  rw [idx_of hn he hk hi] at he'
  exact ⟨he', hw⟩
set_option maxHeartbeats 4000000 in
set_option maxRecDepth 100000 in
theorem ref_drop (h : RefAt w r v os bud) (hn : (os.map (·.key)).Nodup) (hol : os.length < 4294967296) (ks : List ByteArray) (A : Option Addr) (c0 : Nat) (hlen : ks.length < 4611686018427387904)
    (hA : ks ≠ [] → ∃ b o, A = some ⟨b, o, none⟩ ∧ b < w.heap.size ∧ b ≠ r ∧ ∀ j, j < ks.length → w.cell? ⟨b, o + j, none⟩ = some (.string (ks.getD j ByteArray.empty))) :
    Calls Try.prog 17 #[P r, .slice A ks.length c0] w fun e w' => e = .returned (.int .i64 (dropN os ks)) ∧ ∃ v', RefAt w' r v' (dropI os ks) bud ∧ Fr [r] w w' ∧ Newer w v v' := by
  have HA := hid hA
  have HH := hid h
  have HN := hid hn
  have HF0 := hid (Fr.refl [r] w)
  clear hA h hn
  go_enter Try.func17, Try.ntmps17
  go_wp2
  go_loopg [5, 6] ks.length (fun gg s5 s6 wr => ∃ (kk d : Nat) (o1 : List Item) (v1 : Value), kk ≤ ks.length ∧ ks.length - kk ≤ gg ∧ s5 = .int .i64 d ∧ d ≤ kk ∧ s6 = .int .i64 kk ∧ o1.length < 4294967296 ∧ Hid (RefAt wr r v1 o1 bud) ∧ Hid ((o1.map (·.key)).Nodup) ∧ Hid (Fr [r] w wr) ∧ Hid (Newer w v v1) ∧ Hid (dropI o1 (ks.drop kk) = dropI os ks) ∧ Hid (dropN o1 (ks.drop kk) + d = dropN os ks))
  case atStart => exact ⟨0, 0, os, v, Nat.zero_le _, by omega, rfl, Nat.le_refl _, rfl, hol, HH, HN, HF0, hid (Newer.refl _ _), hid rfl, hid rfl⟩
  case round =>
    clear HH HN HF0
    obtain ⟨kk, d, o1, v1, hkk, hg, rfl, hd, rfl, ho1, HC, HN1, HF, HW, HI, HD⟩ := hrel
    by_cases hlt : kk < ks.length
    · have hltz : (kk : Int) < (ks.length : Int) := by omega
      obtain ⟨bq, o, rfl, hbq, hbo, hcells⟩ := HA.out (by rintro rfl; simp at hlt)
      have hcell : wr.cell? ⟨bq, o + kk, none⟩ = some (.string (ks.getD kk ByteArray.empty)) := by
        rw [← hcells kk hlt]
        simp only [World.cell?, HF.out.keep bq hbq (by simpa using hbo)]
      have hdr : ks.drop kk = ks.getD kk ByteArray.empty :: ks.drop (kk + 1) := by
        rw [List.drop_eq_getElem_cons hlt, List.getD_eq_getElem?_getD, List.getElem?_eq_getElem hlt]; rfl
      have HI1 := HI.out
      have HD1 := HD.out
      clear HI HD hcells hbo
      rw [hdr, dropI] at HI1
      rw [hdr, dropN] at HD1
      clear hdr
      generalize ks.getD kk ByteArray.empty = s at hcell HI1 HD1
      have HI2 := hid HI1
      have HD2 := hid HD1
      clear HI1 HD1
      cases hf : findI o1 s with
      | some x =>
        obtain ⟨xs, ys, ho, hout⟩ := find_split hf HN1.out
        have hx := (find_key hf).2
        have HFi := hid (find_is HC.out HN1.out ho hx)
        have HO := hid (show RefAt wr r v1 (xs ++ x :: ys) bud ∧ (xs ++ x :: ys).length < 4294967296 from by rw [← ho]; exact ⟨HC.out, ho1⟩)
        have HI3 := hid (show dropI (xs ++ ys) (ks.drop (kk + 1)) = dropI os ks from by have := HI2.out; rw [hout] at this; exact this)
        have HD3 := hid (show dropN (xs ++ ys) (ks.drop (kk + 1)) + (d + 1) = dropN os ks from by have := HD2.out; rw [hout, hf] at this; simp at this; omega)
        have HN3 := hid (show ((xs ++ ys).map (·.key)).Nodup from by rw [← hout]; exact keys_out HN1.out)
        have hl3 : (xs ++ ys).length < 4294967296 := by have := HO.out.2; simp at this ⊢; omega
        clear HI2 HD2 hout ho HC hf hx
        go_wp2_with (first | (go_at_call 25; refine HFi.out.mono ?_; rintro e w_ ⟨rfl, hww⟩; have hww2 := hww.symm; subst hww2) | (go_at_call 26; refine (out_calls xs ys x HO.out.1 HO.out.2).mono ?_; rintro e w1 ⟨rfl, v2, hr2, hf2, hn2⟩; have R2 := hid hr2; have F2 := hid (HF.out.trans hf2 (fun _ hk => .inl hk)); have N2 := hid (HW.out.trans (Newer.of _ _ hn2) HF.out.size); clear hr2 hf2 hn2))
        go_roundg (ks.length - (kk + 1))
        case measure => omega
        case rel => exact ⟨kk + 1, d + 1, xs ++ ys, v2, by omega, by omega, by go_num, by omega, by go_num, hl3, R2, HN3, F2, N2, HI3, HD3⟩
      | none =>
        have HFi := hid (find_not HC.out s hf)
        have HI3 := hid (show dropI o1 (ks.drop (kk + 1)) = dropI os ks from by have := HI2.out; rw [out_none hf] at this; exact this)
        have HD3 := hid (show dropN o1 (ks.drop (kk + 1)) + d = dropN os ks from by have := HD2.out; rw [out_none hf, hf] at this; exact this)
        clear hf HI2 HD2
        go_wp2_with (go_at_call 25; refine HFi.out.mono ?_; rintro e w_ ⟨rfl, hww⟩; have hww2 := hww.symm; subst hww2)
        go_roundg (ks.length - (kk + 1))
        case measure => omega
        case rel => exact ⟨kk + 1, d, o1, v1, by omega, by omega, rfl, by omega, by go_num, ho1, HC, HN1, HF, HW, HI3, HD3⟩
    · have hltz : ¬ (kk : Int) < (ks.length : Int) := by omega
      have HI1 := HI.out
      have HD1 := HD.out
      clear HI HD
      rw [List.drop_of_length_le (by omega)] at HI1 HD1
      have hd2 : d = dropN os ks := by rw [← HD1]; simp [dropN]
      have HR := hid (show RefAt wr r v1 (dropI os ks) bud from by rw [← HI1]; exact HC.out)
      subst hd2
      clear HI1 HD1
      go_wp2
      go_ret
      exact ⟨rfl, v1, HR.out, HF.out, HW.out⟩
end
end Go.Proofs.Ytbiejjncjgapmaa.L
