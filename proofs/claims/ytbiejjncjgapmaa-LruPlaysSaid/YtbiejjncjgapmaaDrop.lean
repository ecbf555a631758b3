/- Drop. -/
import Derived.Test.YtbiejjncjgapmaaGet
import Derived.StillTailTactics
namespace Go.Proofs.Ytbiejjncjgapmaa.L
open Go.RowKit Go.Lib
def heft (x : Item) : Nat := x.key.size + x.val.size
def weightI (os : List Item) : Nat := (os.map heft).sum
theorem weight_split (xs ys : List Item) (x : Item) : weightI (xs ++ x :: ys) = weightI (xs ++ ys) + heft x := by
  unfold weightI
  simp only [List.map_append, List.map_cons, List.sum_append, List.sum_cons]
  omega
theorem weight_out {os : List Item} {s : ByteArray} {x : Item} (h : findI os s = some x) (hn : (os.map (·.key)).Nodup) : weightI os = weightI (outI os s) + heft x := by
  obtain ⟨xs, ys, e1, e2⟩ := find_split h hn
  rw [e2, e1, weight_split]
theorem keys_out {os : List Item} {s : ByteArray} (hn : (os.map (·.key)).Nodup) : ((outI os s).map (·.key)).Nodup := hn.sublist (List.Sublist.map _ List.filter_sublist)
theorem wrap_back (a b d : Nat) (h : a + (b + d) < 4611686018427387904) : wrap64 ((a : Int) + ((b : Int) + (d : Int)) - wrap64 ((b : Int) + (d : Int))) = (a : Int) := by
  have e : wrap64 ((b : Int) + (d : Int)) = (b : Int) + (d : Int) := by unfold wrap64; omega
  rw [e]
  have e2 : (a : Int) + ((b : Int) + (d : Int)) - ((b : Int) + (d : Int)) = a := by omega
  rw [e2]
  unfold wrap64; omega
def dropI (os : List Item) : List ByteArray → List Item
  | [] => os
  | k :: r => dropI (outI os k) r
def dropN (os : List Item) : List ByteArray → Nat
  | [] => 0
  | k :: r => dropN (outI os k) r + if (findI os k).isSome then 1 else 0
section
variable {w : World} {c m : Nat} {is os : List Item} {bud byt : Int} {n : Nat}
theorem CacheAt.without {w1 w2 : World} (h : CacheAt w c m is os bud byt n) {s : ByteArray} {x : Item} {xs ys : List Item} (_hf : findI os s = some x) (e2 : outI os s = xs ++ ys)
    (hh : Half w1 c m is (xs ++ ys) bud byt) (hm : MapAt w2 m n (fun t => if t = s then none else keyed os t)) (ht : w1.mapTurned w2 m) : CacheAt w2 c m is (outI os s) bud byt n := by
  have hoff := h.off
  refine ⟨?_, keys_out h.keys, ?_, fun y hy => h.short y (List.mem_filter.1 hy).1⟩
  · rw [e2]
    exact hh.fr (Fr.turned ht (List.mem_singleton.2 rfl)) (fun k hk hm => hoff k hk (List.mem_singleton.1 hm))
  · have e : keyed (outI os s) = fun t => if t = s then none else keyed os t := by
      funext t
      unfold keyed
      rw [find_out]
      split <;> rfl
    rw [e]; exact hm
theorem CacheAt.set_bytes (h : CacheAt w c m is os bud byt n) (b : Int) : CacheAt (w.setCell ⟨c, 6, none⟩ (.int .i64 b)).drew c m is os bud b n := by
  obtain ⟨nx, pv, hl, hr⟩ := h.half.link
  exact ⟨⟨⟨nx, pv, (hl.set_bytes b).drew, hr⟩, h.half.sub, h.half.nd⟩, h.keys, h.map.keep (Below.heap_setCell w _ _ m (fun e => h.off c List.mem_cons_self e.symm)), h.short⟩
set_option maxHeartbeats 4000000 in
set_option maxRecDepth 100000 in
theorem drop_calls (h : CacheAt w c m is os bud (weightI os) n) (hw : weightI os < 4611686018427387904) (ks : List ByteArray) (A : Option Addr) (c0 : Nat) (hks : ∀ k ∈ ks, k.size ≤ maxLen) (hlen : ks.length < 4611686018427387904)
    (hA : ks ≠ [] → ∃ b o, A = some ⟨b, o, none⟩ ∧ b < w.heap.size ∧ b ∉ m :: blks c is ∧ ∀ j, j < ks.length → w.cell? ⟨b, o + j, none⟩ = some (.string (ks.getD j ByteArray.empty))) :
    Calls Try.prog 16 #[P c, .slice A ks.length c0] w fun e w' => e = .returned (.int .i64 (dropN os ks)) ∧ CacheAt w' c m is (dropI os ks) bud (weightI (dropI os ks)) n ∧ Fr (m :: blks c is) w w' := by
  have HA := hid hA
  have HH := hid h
  have HK := hid hks
  have HW := hid hw
  have HF0 := hid (Fr.refl (m :: blks c is) w)
  clear hA h hks hw
  go_enter Try.func16, Try.ntmps16
  go_wp2
  go_loopg [5, 13] ks.length (fun gg s5 s13 wr => ∃ (kk d : Nat) (o1 : List Item), kk ≤ ks.length ∧ ks.length - kk ≤ gg ∧ s5 = .int .i64 d ∧ d ≤ kk ∧ s13 = .int .i64 kk ∧ Hid (CacheAt wr c m is o1 bud (weightI o1) n) ∧ Hid (weightI o1 < 4611686018427387904) ∧ Hid (Fr (m :: blks c is) w wr) ∧ Hid (dropI o1 (ks.drop kk) = dropI os ks) ∧ Hid (dropN o1 (ks.drop kk) + d = dropN os ks))
  case atStart => exact ⟨0, 0, os, Nat.zero_le _, by omega, rfl, Nat.le_refl _, rfl, HH, HW, HF0, hid rfl, hid rfl⟩
  case round =>
    clear HH HW HF0
    obtain ⟨kk, d, o1, hkk, hg, rfl, hd, rfl, HC, HW, HF, HI, HN⟩ := hrel
    by_cases hlt : kk < ks.length
    · have hltz : (kk : Int) < (ks.length : Int) := by omega
      obtain ⟨bq, o, rfl, hbq, hbo, hcells⟩ := HA.out (by rintro rfl; simp at hlt)
      have hcell : wr.cell? ⟨bq, o + kk, none⟩ = some (.string (ks.getD kk ByteArray.empty)) := by
        rw [← hcells kk hlt]
        simp only [World.cell?, HF.out.keep bq hbq hbo]
      have hdr : ks.drop kk = ks.getD kk ByteArray.empty :: ks.drop (kk + 1) := by
        rw [List.drop_eq_getElem_cons hlt, List.getD_eq_getElem?_getD, List.getElem?_eq_getElem hlt]; rfl
      have hsz : (ks.getD kk ByteArray.empty).size ≤ maxLen := HK.out _ (by rw [List.getD_eq_getElem?_getD, List.getElem?_eq_getElem hlt]; exact List.getElem_mem _)
      have HI1 := HI.out
      have HN1 := HN.out
      clear HI HN hcells hbo
      rw [hdr, dropI] at HI1
      rw [hdr, dropN] at HN1
      clear hdr
      generalize ks.getD kk ByteArray.empty = s at hcell hsz HI1 HN1
      have h := HC.out
      obtain ⟨nx, pv, hl⟩ := h.half.lies
      have c4 := hl.items
      clear hl
      have hlook := h.map.look hsz
      have ek : keyed o1 s = (findI o1 s).map (·.blk) := rfl
      cases hf : findI o1 s with
      | none =>
        rw [hf] at HN1
        rw [out_none hf] at HI1 HN1
        have e2 : ptrOf (keyed o1 s) = .pointer none := by rw [ek, hf]; rfl
        rw [e2] at hlook
        have HI2 := hid HI1
        have HN2 := hid (show dropN o1 (ks.drop (kk + 1)) + d = dropN os ks from HN1)
        clear HI1 HN1 h ek e2 hf
        go_wp2
        go_roundg (ks.length - (kk + 1))
        case measure => omega
        case rel => exact ⟨kk + 1, d, o1, by omega, by omega, rfl, by omega, by go_num, HC, HW, HF, HI2, HN2⟩
      | some x =>
        rw [hf] at HN1
        have e2 : ptrOf (keyed o1 s) = P x.blk := by rw [ek, hf]; rfl
        rw [e2] at hlook
        have hwt := weight_out hf h.keys
        have hwb := HW.out
        obtain ⟨hxo, hxk⟩ := find_key hf
        have hxi := h.half.sub x hxo
        obtain ⟨xs, ys, hos, hout⟩ := find_split hf h.keys
        have hh : Half wr c m is (xs ++ x :: ys) bud (weightI o1) := by
          have h0 := h.half
          generalize ((weightI o1 : Nat) : Int) = z at h0 ⊢
          rw [hos] at h0
          exact h0
        have HL := hid (loose_half x xs ys hh)
        have HI2 := hid HI1
        have HN2 := hid (show dropN (outI o1 s) (ks.drop (kk + 1)) + (d + 1) = dropN os ks by simp at HN1; omega)
        have hheft : heft x = x.key.size + x.val.size := rfl
        have HF1 := hid hf
        have HO := hid hout
        clear HI1 HN1 h ek e2 hf hh hout hos
        go_wp2_with (first | (go_at_call 28; refine HL.out.mono ?_; rintro e w1 ⟨rfl, hh1, ff1⟩; have HH1 := hid hh1; have FF1 := hid (HF.out.trans ff1 (fun k hk => .inl (List.mem_cons_of_mem _ hk))); have c41 : w1.cell? ⟨c, 4, none⟩ = some (.map (some m)) := (by obtain ⟨nx1, pv1, hl1⟩ := hh1.lies; exact hl1.items); have M1 := hid (HC.out.map.keep (ff1.keep m HC.out.map.lt (fun hm => HC.out.off m hm rfl))); clear hh1 ff1) | (at_delete; refine wpList_drop _ rfl _ _ rfl rfl M1.out s rfl hsz ?_; intro w2 hm2 ht2; have C2 := hid (HC.out.without HF1.out HO.out HH1.out hm2 ht2); have FF2 := hid (FF1.out.trans (Fr.turned ht2 (List.mem_cons_self : m ∈ m :: blks c is)) (fun _ hk => .inl hk)); clear hm2 ht2; obtain ⟨nx2, pv2, hl2⟩ := C2.out.half.lies; have b1 := hl2.bytes; have b2 := hl2.key hxi; have b3 := hl2.val hxi; have b4 := hl2.free (List.mem_cons_self : c ∈ blks c is) 6; clear hl2))
        go_still_tail 18, (by kernel_rfl)
        change wpList _ _ _ _ _ w2.drew
        go_wp2
        go_roundg (ks.length - (kk + 1))
        case measure => omega
        case rel =>
          refine ⟨kk + 1, d + 1, outI o1 s, by omega, by omega, by go_num, by omega, by go_num, ?_, hid (by omega), hid (FF2.out.trans (Fr.set _ _ _ (List.mem_cons_of_mem _ List.mem_cons_self)) (fun _ hk => .inl hk)).drew, HI2, HN2⟩
          have e := wrap_back (weightI (outI o1 s)) s.size x.val.size (by rw [hheft, hxk] at hwt; omega)
          rw [e]
          exact hid (C2.out.set_bytes _)
    · have hltz : ¬ (kk : Int) < (ks.length : Int) := by omega
      have hI := HI.out
      have hN := HN.out
      clear HI HN
      rw [List.drop_of_length_le (by omega)] at hI hN
      have hN2 : d = dropN os ks := by rw [← hN]; simp [dropN]
      have hI2 : o1 = dropI os ks := hI
      subst hI2
      subst hN2
      go_wp2
      go_ret
      exact ⟨rfl, HC.out, HF.out⟩
end
end Go.Proofs.Ytbiejjncjgapmaa.L
