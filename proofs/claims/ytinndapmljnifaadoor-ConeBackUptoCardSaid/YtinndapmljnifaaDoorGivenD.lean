/- The machine side of cone.Parse, by hand. -/
import Derived.Test.YtinndapmljnifaaDoorGivenB
import Derived.Test.YtinndapmljnifaaDoorQx1
namespace Go.Proofs.YtinndapmljnifaaDoor.P
open Go.RowKit Go.Lib Go.Proofs.YtinndapmljnifaaDoor.Q
open Go.Proofs.YtinndapmljnifaaDoorW.PrintWords Go.Proofs.YtinndapmljnifaaDoorW.PrintLast Go.Proofs.YtinndapmljnifaaDoorW.PrintMore
structure Held (B b : Nat) (acc : List ByteArray) (w : World) (v : Value) : Prop where
  cell : w.heap[b]? = some (.cells #[v] 22 (0, 0))
  own : Kd.R Kd.string 9 w B (fun k => k ≠ b) v acc
  ge : B ≤ b
structure Leaves (b : Nat) (v v' : Value) (w w' : World) : Prop where
  block : ∀ j, j < w.heap.size → j ≠ b → some j ≠ v.ownBlock → w'.heap[j]? = w.heap[j]?
  row : v'.ownBlock = v.ownBlock ∨ ∃ n, v'.ownBlock = some n ∧ w.heap.size ≤ n
def skipped (s : ByteArray) : Bool := s.data.toList == [] || (s.data.toList.headD 0 == 35)
theorem ba_toList_data' (s : ByteArray) : s.toList = s.data.toList := by
  conv => lhs; rw [← ba_of s]
  rw [ba_toList]
theorem head_bt (s : ByteArray) : bt s 0 = ((s.data.toList.headD 0).toNat : Int) := by
  rw [← ba_of s]
  have := ba_get s.data.toList 0
  rw [ba_data]
  rw [show ((0 : Nat) : Int) = 0 from rfl] at this
  rw [this]
  cases s.data.toList <;> rfl
theorem Held.lt {B b : Nat} {acc : List ByteArray} {w : World} {v : Value} (h : Held B b acc w v) : b < w.heap.size := (Array.getElem?_eq_some_iff.1 h.cell).1
theorem Held.at_ {B b : Nat} {acc : List ByteArray} {w : World} {v : Value} (h : Held B b acc w v) : w.cell? ⟨b, 0, none⟩ = some v := by
  simp [World.cell?, h.cell]
theorem Held.ne {B b : Nat} {acc : List ByteArray} {w : World} {v : Value} (h : Held B b acc w v) : v.ownBlock ≠ some b := fun e => h.own.1 b e rfl
theorem Held.below {B b : Nat} {acc : List ByteArray} {w w' : World} {v : Value} (h : Held B b acc w v) (hb : Below w.heap.size w w') : Held B b acc w' v :=
  ⟨(hb.block b h.lt).trans h.cell, Kd.R_below h.own hb, h.ge⟩
theorem Held.put {B b : Nat} {acc : List ByteArray} {w1 : World} {v v1 : Value} (hc : w1.heap[b]? = some (.cells #[v] 22 (0, 0))) (ho : Kd.R Kd.string 9 w1 B (fun k => k ≠ b) v1 acc) (hB : B ≤ b) : Held B b acc (w1.setCell ⟨b, 0, none⟩ v1) v1 := by
  refine ⟨?_, Kd.R_far ho (fun k hk => hk) v1, hB⟩
  simp [World.setCell, Array.getElem?_modify, hc]
theorem Leaves.below {b : Nat} {v v' : Value} {w w1 w2 : World} (h : Leaves b v v' w w1) (_hb : b < w.heap.size) (hbl : Below w1.heap.size w1 w2) (hs : w.heap.size ≤ w1.heap.size) : Leaves b v v' w w2 :=
  ⟨fun j hj h1 h2 => (hbl.block j (by omega)).trans (h.block j hj h1 h2), h.row⟩
set_option maxHeartbeats 4000000 in
set_option maxRecDepth 100000 in
theorem say_skip (b : Nat) (s : ByteArray) (w : World) (hs : skipped s = true) :
    Calls Tryd.prog 42 #[.string s, .pointer (some ⟨b, 0, none⟩)] w fun e w' => e = .returned (.bool true) ∧ w' = w := by
  unfold skipped at hs
  cases hq : (s.data.toList == []) with
  | true =>
    have hq2 : (s.toList == []) = true := by rw [ba_toList_data']; exact hq
    have hn : s.data.toList = [] := by simpa using hq
    have hq3 : s.toList.isEmpty = true := by rw [ba_toList_data', hn]; rfl
    clear hs hq hn
    go_enter Tryd.func42, Tryd.ntmps42
    go_wp2
    go_ret
    exact ⟨rfl, rfl⟩
  | false =>
    rw [hq, Bool.false_or] at hs
    have hn : s.data.toList ≠ [] := by simpa using hq
    have hq2 : (s.toList == []) = false := by rw [ba_toList_data']; exact hq
    have hq3 : s.toList.isEmpty = false := by rw [ba_toList_data']; exact List.isEmpty_eq_false_iff.2 hn
    have hz : 0 < s.size := by rw [Lib.size_eq]; exact List.length_pos_iff.2 hn
    have hz1 : (0 < s.size) = True := eq_true hz
    have hv : (bt s 0 == 35) = true := by
      rw [head_bt, (beq_iff_eq.1 hs : s.data.toList.headD 0 = 35)]; rfl
    have hx : (((s[0]'hz).toNat : Int) == 35) = true := by
      have e : ((s[0]'hz).toNat : Int) = bt s 0 := bt_at s 0 hz
      rw [e]; exact hv
    clear hs hq hn hv
    go_enter Tryd.func42, Tryd.ntmps42
    go_wp2
    go_ret
    exact ⟨rfl, rfl⟩
set_option maxHeartbeats 4000000 in
set_option maxRecDepth 100000 in
theorem say_star (B b : Nat) (acc : List ByteArray) (w : World) (v : Value) (H : Held B b acc w v) (hl : acc.length < 8796093022208) (hBw : B ≤ w.heap.size) :
    Calls Tryd.prog 42 #[.string ⟨#[42]⟩, .pointer (some ⟨b, 0, none⟩)] w fun e w' => e = .returned (.bool true) ∧ (∃ v', Held B b (acc ++ [⟨#[]⟩]) w' v' ∧ Leaves b v v' w w') ∧ Below B w w' := by
  obtain ⟨A, c, hvv⟩ := Kd.R_slice H.own
  subst hvv
  have hcell := H.at_
  have hlt := H.lt
  have HH := hid H
  clear H
  have hx := bt_at (⟨#[42]⟩ : ByteArray) 0
  go_enter Tryd.func42, Tryd.ntmps42
  go_wp2_with (first | ((with_reducible refine gate_builtin (b := .append) (xs := #[.tmp 15, .tmp 16]) rfl ?_); (try (refine gate_guard (by rfl) ?_; dsimp only)); at_builtin; refine Kd.R_append Kd.string (w0 := w) B rfl (.tmp 15) (.tmp 16) 22 9 (.string ⟨#[]⟩) 16 rfl Tryd.underlying22 info9 rfl (by decide) (by omega) (.slice A acc.length c) acc ⟨#[]⟩ [.string ⟨#[]⟩] (fun k => k ≠ b) (fun _ => False) rfl rfl ?aP (fun _ hk => hk.elim) ?aF ?aO ?aB ?aS ?aL ?_; (case aP => exact rfl); (case aB => exact Below.refl _ _); (case aF => exact (fun k hk e => by omega)); (case aO => exact HH.out.own); (case aS => exact hBw); (case aL => omega); intro v1 w1 ho hb hg hat; obtain ⟨A1, c1, e1⟩ := Kd.R_slice ho; subst e1; have hc1 : w1.heap[b]? = some (.cells #[.slice A acc.length c] 22 (0, 0)) := (hg.block b hlt HH.out.ne.symm).trans HH.out.cell; have hf1 : w1.frozen? ⟨b, 0, none⟩ = false := (by simp [World.frozen?, hc1]); have hd1 : w1.cell? ⟨b, 0, none⟩ = some (.slice A acc.length c) := (by simp [World.cell?, hc1]); have hput0 := Held.put hc1 ho HH.out.ge; have hbel0 := hb.setCell (p := ⟨b, 0, none⟩) HH.out.ge (.slice A1 (acc ++ [(⟨#[]⟩ : ByteArray)]).length c1); have hlv0 : Leaves b (.slice A acc.length c) (.slice A1 (acc ++ [(⟨#[]⟩ : ByteArray)]).length c1) w (w1.setCell ⟨b, 0, none⟩ (.slice A1 (acc ++ [(⟨#[]⟩ : ByteArray)]).length c1)) := ⟨fun j hj hjb hjo => (Below.heap_setCell w1 ⟨b, 0, none⟩ _ j hjb).trans (hg.block j hj hjo), hat⟩; simp only [List.length_append, List.length_singleton] at hput0 hbel0 hlv0; have hlv := hid hlv0; clear hlv0; have hput := hid hput0; have hbel := hid hbel0; clear hput0 hbel0 ho hb hg hat))
  go_ret
  exact ⟨rfl, ⟨_, hput.out, hlv.out⟩, hbel.out⟩
set_option maxHeartbeats 4000000 in
set_option maxRecDepth 100000 in
theorem say_dir (k B b : Nat) (acc : List ByteArray) (w : World) (v : Value) (s : ByteArray) (r : Bool) (H : Held B b acc w v) (hl : acc.length < 8796093022208) (hBw : B ≤ w.heap.size) (hs : skipped s = false) (h42 : (s.data.toList == [42]) = false) (hp : cone_isPath.f k s = some r) :
    Calls Tryd.prog 42 #[.string s, .pointer (some ⟨b, 0, none⟩)] w fun e w' => e = .returned (.bool r) ∧ (∃ v', Held B b (acc ++ [s]) w' v' ∧ Leaves b v v' w w') ∧ Below B w w' := by
  obtain ⟨A, c, hvv⟩ := Kd.R_slice H.own
  subst hvv
  have hcell := H.at_
  have hlt := H.lt
  have HH := hid H
  clear H
  have hpath := hid (fun W => cone_isPath.calls k s r W hp)
  clear hp
  unfold skipped at hs
  rw [Bool.or_eq_false_iff] at hs
  obtain ⟨hq, hh⟩ := hs
  have hn : s.data.toList ≠ [] := by simpa using hq
  have hq2 : (s.toList == []) = false := by rw [ba_toList_data']; exact hq
  have hq3 : s.toList.isEmpty = false := by rw [ba_toList_data']; exact List.isEmpty_eq_false_iff.2 hn
  have hq4 : (s.toList == [42]) = false := by rw [ba_toList_data']; exact h42
  have hz : 0 < s.size := by rw [Lib.size_eq]; exact List.length_pos_iff.2 hn
  have hz1 : (0 < s.size) = True := eq_true hz
  have hv : (bt s 0 == 35) = false := by
    rw [head_bt, beq_eq_false_iff_ne]
    intro e
    rw [beq_eq_false_iff_ne] at hh
    exact hh (UInt8.toNat_inj.1 (by have : ((35 : UInt8).toNat : Int) = 35 := rfl; omega))
  have hx : (((s[0]'hz).toNat : Int) == 35) = false := by
    have e : ((s[0]'hz).toNat : Int) = bt s 0 := bt_at s 0 hz
    rw [e]; exact hv
  clear hq hn hv hh h42
  go_enter Tryd.func42, Tryd.ntmps42
  go_wp2_with (first | ((with_reducible refine gate_builtin (b := .append) (xs := #[.tmp 18, .tmp 20]) rfl ?_); (try (refine gate_guard (by rfl) ?_; dsimp only)); at_builtin; refine Kd.R_append Kd.string (w0 := w) B rfl (.tmp 18) (.tmp 20) 22 9 (.string ⟨#[]⟩) 16 rfl Tryd.underlying22 info9 rfl (by decide) (by omega) (.slice A acc.length c) acc s [.string s] (fun k => k ≠ b) (fun _ => False) rfl rfl ?aP (fun _ hk => hk.elim) ?aF ?aO ?aB ?aS ?aL ?_; (case aP => exact rfl); (case aB => exact Below.refl _ _); (case aF => exact (fun k hk e => by omega)); (case aO => exact HH.out.own); (case aS => exact hBw); (case aL => omega); intro v1 w1 ho hb hg hat; obtain ⟨A1, c1, e1⟩ := Kd.R_slice ho; subst e1; have hc1 : w1.heap[b]? = some (.cells #[.slice A acc.length c] 22 (0, 0)) := (hg.block b hlt HH.out.ne.symm).trans HH.out.cell; have hf1 : w1.frozen? ⟨b, 0, none⟩ = false := (by simp [World.frozen?, hc1]); have hd1 : w1.cell? ⟨b, 0, none⟩ = some (.slice A acc.length c) := (by simp [World.cell?, hc1]); have hput0 := Held.put hc1 ho HH.out.ge; have hbel0 := hb.setCell (p := ⟨b, 0, none⟩) HH.out.ge (.slice A1 (acc ++ [s]).length c1); have hlv0 : Leaves b (.slice A acc.length c) (.slice A1 (acc ++ [s]).length c1) w (w1.setCell ⟨b, 0, none⟩ (.slice A1 (acc ++ [s]).length c1)) := ⟨fun j hj hjb hjo => (Below.heap_setCell w1 ⟨b, 0, none⟩ _ j hjb).trans (hg.block j hj hjo), hat⟩; simp only [List.length_append, List.length_singleton] at hput0 hbel0 hlv0; have hlv := hid hlv0; clear hlv0; have hput := hid hput0; have hbel := hid hbel0; clear hput0 hbel0 ho hb hg hat) | (go_at_call 26; refine (hpath.out _).mono ?_; rintro e w2 ⟨rfl, hb2⟩; have hput2 := hid (hput.out.below hb2); have hlv2 := hid (hlv.out.below (HH.out.lt) hb2 hbel.out.size); have hbel2 := hid (hbel.out.trans (hb2.mono (by have := hbel.out.size; omega))); clear hb2))
  go_ret
  exact ⟨rfl, ⟨_, hput2.out, hlv2.out⟩, hbel2.out⟩
end Go.Proofs.YtinndapmljnifaaDoor.P
