/- What the functions of the package path, and of its reference, answer: plain lists of bytes. -/
import Derived.Test.YtinndapmljnifaaDoorPx0
import Derived.Test.YtinndapmljnifaaDoorPx1
import Derived.Test.YtinndapmljnifaaDoorPx2
import Derived.Test.YtinndapmljnifaaDoorPx3
import Derived.Test.YtinndapmljnifaaDoorPx4
namespace Go.Proofs.YtinndapmljnifaaDoor.P
open Go.RowKit
open Go.Proofs.YtinndapmljnifaaDoorW.PrintWords Go.Proofs.YtinndapmljnifaaDoorW.PrintLast Go.Proofs.YtinndapmljnifaaDoorW.PrintMore
theorem Ev.pos {α : Type} {c : Prop} [Decidable c] {f g : Nat → Option α} {r : α} (hc : c) (h : Ev f r) : Ev (fun k => if c then f k else g k) r := Ev.congr (fun _ => if_pos hc) h
theorem Ev.neg {α : Type} {c : Prop} [Decidable c] {f g : Nat → Option α} {r : α} (hc : ¬ c) (h : Ev g r) : Ev (fun k => if c then f k else g k) r := Ev.congr (fun _ => if_neg hc) h
theorem Ev.have_ {α β : Type} {o : Option α} {f : Nat → α → Option β} {a : α} {r : β} (h : o = some a) (k : Ev (fun n => f n a) r) : Ev (fun n => o.bind (f n)) r := Ev.congr (fun n => by rw [h]; rfl) k
theorem Ev.val {α : Type} {r s : α} (h : r = s) : Ev (fun _ => some r) s := h ▸ Ev.now r
theorem wrapN (n : Nat) (h : n < 4611686018427387904) : wrap64 ((n : Int) + 1) = ((n + 1 : Nat) : Int) := by
  unfold wrap64; omega
theorem ba_get (l : List UInt8) (n : Nat) : bt (ba l) (n : Int) = ((l.getD n 0).toNat : Int) := by
  unfold bt
  split
  · rename_i h
    simp only [Int.toNat_natCast] at h ⊢
    have hl : n < l.length := by rw [ba_size] at h; exact h
    rw [List.getD_eq_getElem?_getD, List.getElem?_eq_getElem hl]
    rfl
  · rename_i h
    simp only [Int.toNat_natCast] at h
    rw [ba_size] at h
    rw [List.getD_eq_getElem?_getD, List.getElem?_eq_none (by omega)]
    rfl
theorem ba_extract (l : List UInt8) (i j : Nat) : (ba l).extract i j = ba ((l.take j).drop i) := by
  apply ba_ext
  rw [ba_data, Lib.extract_data, ba_data, List.drop_take]
theorem ba_append (l m : List UInt8) : ba l ++ ba m = ba (l ++ m) := by
  apply ba_ext
  rw [ba_data]
  show (ByteArray.append (ba l) (ba m)).data.toList = _
  simp [ba]
theorem rd_map (ps : List (List UInt8)) (n : Nat) : rdOf ByteArray.empty (ps.map ba) (n : Int) = ba (ps.getD n []) := by
  unfold rdOf
  simp only [Int.toNat_natCast, List.getD_eq_getElem?_getD, List.getElem?_map]
  cases ps[n]? <;> rfl
theorem map_data (ps : List (List UInt8)) : (ps.map ba).map (·.data.toList) = ps := by
  rw [List.map_map]
  conv => rhs; rw [← List.map_id ps]
  exact List.map_congr_left (fun a _ => ba_data a)
def nameOk (l : List UInt8) : Bool := decide (l.length ≤ 64) && !(l == []) && !(l == [46]) && !(l == [46, 46]) && !(l.any fun c => c == 47 || c == 0)
def okParts (ps : List (List UInt8)) : Bool := decide (ps.length ≤ 16) && ps.all nameOk
def joinL (ps : List (List UInt8)) : List UInt8 × Int := if okParts ps then (jn 47 ps, 0) else ([], 40)
def parseL (s : List UInt8) : List (List UInt8) × Int := if s = [] then ([], 0) else if okParts (pts 47 s) then (pts 47 s, 0) else ([], 40)
theorem isName_eq (l : List UInt8) : path_IsName.f (ba l) = some (nameOk l) := by
  unfold path_IsName.f nameOk
  rw [ba_toList, ba_size]
  by_cases h1 : l = []
  · rw [if_pos h1]; simp [h1]
  rw [if_neg h1]
  by_cases h2 : l = [46]
  · rw [if_pos h2]; simp [h2]
  rw [if_neg h2]
  by_cases h3 : l = [46, 46]
  · rw [if_pos h3]; simp [h3]
  rw [if_neg h3]
  by_cases h4 : (l.length : Int) ≤ 64
  · rw [if_pos h4]
    have h4' : l.length ≤ 64 := by omega
    have e : strings_ContainsAny.f (ba l) ⟨#[47, 0]⟩ = some (l.any fun c => c == 47 || c == 0) := by
      unfold strings_ContainsAny.f
      rw [if_pos ⟨rfl, by rw [ba_size]; omega⟩, ba_data]
    rw [e]
    simp [h1, h2, h3, h4']
  · rw [if_neg h4]
    have h4' : ¬ l.length ≤ 64 := by omega
    simp [h4']
theorem nameOk_length {l : List UInt8} (h : nameOk l = true) : 1 ≤ l.length ∧ l.length ≤ 64 := by
  unfold nameOk at h
  simp only [Bool.and_eq_true, decide_eq_true_eq, Bool.not_eq_true', beq_eq_false_iff_ne] at h
  have := List.length_pos_iff.2 h.1.1.1.2
  exact ⟨this, h.1.1.1.1⟩
theorem nameOk_no {l : List UInt8} (h : nameOk l = true) : (47 : UInt8) ∉ l := by
  unfold nameOk at h
  simp only [Bool.and_eq_true, Bool.not_eq_true'] at h
  intro hm
  have := List.any_eq_false.1 h.2 47 hm
  simp at this
theorem sum_names (ps : List (List UInt8)) (h : ps.all nameOk = true) : (ps.map List.length).sum ≤ 64 * ps.length := by
  induction ps with
  | nil => simp
  | cons a r ih =>
    simp only [List.all_cons, Bool.and_eq_true] at h
    have h1 := (nameOk_length h.1).2
    have h2 := ih h.2
    simp only [List.map_cons, List.sum_cons, List.length_cons]
    omega
theorem join_short (ps : List (List UInt8)) (h : ps.all nameOk = true) (hl : ps.length ≤ 16) : (jn 47 ps).length ≤ 2000 := by
  have h1 := jn_length 47 ps
  have h2 := sum_names ps h
  omega
theorem strings_Join_eq (ps : List (List UInt8)) (h : ps.all nameOk = true) (hl : ps.length ≤ 16) : strings_Join.f (ps.map ba) ⟨#[47]⟩ = some (ba (jn 47 ps)) := by
  unfold strings_Join.f
  have e : (⟨#[47]⟩ : ByteArray).data.toList = [47] := rfl
  rw [e]
  have := join_short ps h hl
  simp only
  rw [if_pos ⟨by rw [List.length_map]; omega, by rw [map_data]; omega⟩, map_data]
theorem join_loop (ps : List (List UInt8)) (hl : ps.length ≤ 16) : ∀ d n, n ≤ ps.length → ps.length - n = d → (ps.take n).all nameOk = true →
    Ev (fun k => path_Join.l0 k (ps.map ba) (ps.map ba) ((ps.map ba).length : Int) (n : Int)) (ba (joinL ps).1, (joinL ps).2) := by
  intro d
  induction d with
  | zero =>
    intro n hn hd ht
    obtain rfl : n = ps.length := by omega
    rw [List.take_length] at ht
    refine Ev.step (fun k => rfl) ?_
    refine Ev.neg (by rw [List.length_map]; omega) ?_
    refine Ev.have_ (strings_Join_eq ps ht hl) (Ev.val ?_)
    simp [joinL, okParts, hl, ht]
  | succ d ih =>
    intro n hn hd ht
    have hlt : n < ps.length := by omega
    refine Ev.step (fun k => rfl) ?_
    refine Ev.pos (by rw [List.length_map]; omega) (Ev.pos (by omega) (Ev.pos (by rw [List.length_map]; omega) ?_))
    rw [rd_map]
    refine Ev.have_ (isName_eq _) ?_
    have hg : ps.getD n [] = ps[n] := by rw [List.getD_eq_getElem?_getD, List.getElem?_eq_getElem hlt]; rfl
    rw [hg]
    have hs : ps.take (n + 1) = ps.take n ++ [ps[n]] := by rw [List.take_succ_eq_append_getElem hlt]
    cases hb : nameOk ps[n] with
    | true =>
      refine Ev.pos rfl ?_
      rw [wrapN n (by omega)]
      exact ih (n + 1) (by omega) (by omega) (by rw [hs, List.all_append, ht]; simp [hb])
    | false =>
      refine Ev.neg (by simp) (Ev.val ?_)
      have : ps.all nameOk = false := List.all_eq_false.2 ⟨ps[n], List.getElem_mem hlt, by simp [hb]⟩
      simp [joinL, okParts, this, ba]
theorem join_ev (ps : List (List UInt8)) : Ev (fun k => path_Join.f k (ps.map ba)) (ba (joinL ps).1, (joinL ps).2) := by
  unfold path_Join.f
  by_cases h : (((ps.map ba).length : Nat) : Int) > 16
  · refine Ev.pos h (Ev.val ?_)
    have : ¬ ps.length ≤ 16 := by rw [List.length_map] at h; omega
    simp [joinL, okParts, this, ba]
  · refine Ev.neg h ?_
    exact join_loop ps (by rw [List.length_map] at h; omega) _ 0 (Nat.zero_le _) rfl rfl
theorem parts_eq (s : List UInt8) (h : s.length < 4294967281) : path_text_parts.f (ba s) = some ((if s = [] then [] else pts 47 s).map ba) := by
  unfold path_text_parts.f
  rw [ba_toList]
  by_cases h0 : s = []
  · rw [if_pos h0, if_pos h0]; rfl
  · rw [if_neg h0, if_neg h0]
    unfold strings_Split.f
    have e : (⟨#[47]⟩ : ByteArray).data.toList = [47] := rfl
    rw [e]
    simp only
    rw [if_pos (by rw [ba_size]; exact h), ba_data]
    rfl
theorem parse_ev (s : List UInt8) (h : s.length < 4294967281) : Ev (fun k => path_Parse.f k (ba s)) ((parseL s).1.map ba, (parseL s).2) := by
  unfold path_Parse.f
  refine Ev.have_ (parts_eq s h) (Ev.bind (join_ev _) ?_)
  by_cases h0 : s = []
  · subst h0
    refine Ev.pos ?_ (Ev.val ?_)
    · simp [joinL, okParts]
    · simp [parseL]
  · rw [if_neg h0]
    unfold parseL joinL
    rw [if_neg h0]
    by_cases hk : okParts (pts 47 s) = true
    · simp only [hk, if_true]
      exact Ev.val rfl
    · simp only [hk, if_false, Bool.false_eq_true]
      exact Ev.val rfl
end Go.Proofs.YtinndapmljnifaaDoor.P
