/- Plain facts on bytes: the pieces of a text between the instances of one byte, and joining them again. No program. What the printed functions answer: numbers, texts, a few records, groups that are the same. -/
import Derived.Lib.Bytealg
import Derived.Lib.Split
import Derived.Test.YthlmbgaipbjbhaaDoorPx0
import Derived.Test.YthlmbgaipbjbhaaDoorPx1
import Derived.Test.YthlmbgaipbjbhaaDoorPx2
import Derived.Laws.Bits64
section
namespace Go.Proofs.YthlmbgaipbjbhaaDoor.P
def ba (l : List UInt8) : ByteArray := ⟨l.toArray⟩
theorem ba_of (s : ByteArray) : ba s.data.toList = s := by cases s; simp [ba]
theorem ba_ext {s t : ByteArray} (h : s.data.toList = t.data.toList) : s = t := by rw [← ba_of s, ← ba_of t, h]
end Go.Proofs.YthlmbgaipbjbhaaDoor.P
end
section
namespace Go.Proofs.YthlmbgaipbjbhaaDoor.P
open Go.RowKit Go.Lib Go.Proofs.YthlmbgaipbjbhaaDoor.L
open Go.Proofs.YthlmbgaipbjbhaaDoorW.PrintWords Go.Proofs.YthlmbgaipbjbhaaDoorW.PrintLast Go.Proofs.YthlmbgaipbjbhaaDoorW.PrintMore
set_option linter.unusedVariables false
theorem Ev.pos {α : Type} {c : Prop} [Decidable c] {f g : Nat → Option α} {r : α} (hc : c) (h : Ev f r) : Ev (fun k => if c then f k else g k) r := Ev.congr (fun _ => if_pos hc) h
theorem Ev.neg {α : Type} {c : Prop} [Decidable c] {f g : Nat → Option α} {r : α} (hc : ¬ c) (h : Ev g r) : Ev (fun k => if c then f k else g k) r := Ev.congr (fun _ => if_neg hc) h
theorem Ev.have_ {α β : Type} {o : Option α} {f : Nat → α → Option β} {a : α} {r : β} (h : o = some a) (k : Ev (fun n => f n a) r) : Ev (fun n => o.bind (f n)) r := Ev.congr (fun n => by rw [h]; rfl) k
theorem Ev.val {α : Type} {r s : α} (h : r = s) : Ev (fun _ => some r) s := h ▸ Ev.now r
theorem w64 {x : Int} (h : -9223372036854775808 ≤ x ∧ x < 9223372036854775808) : wrap64 x = x := by unfold wrap64; omega
theorem or128 : ∀ n : Fin 256, bits BinOp.or IntKind.u8 (n.val : Int) 128 = ((n.val % 128 + 128 : Nat) : Int) := by decide +kernel
theorem putInt_loop : ∀ (u : Nat) (acc : List Int), u < 18446744073709551616 → acc.length + (uv u).length ≤ 1000 → Ev (fun k => wire_PutInt.l0 k acc (u : Int)) (acc ++ uv u) := by
  intro u
  induction u using uv.induct with
  | case1 u h =>
    intro acc hu hl
    refine Ev.step (fun k => rfl) (Ev.neg (by omega) (Ev.pos (by omega) (Ev.val ?_)))
    rw [uv_lt h, show ((u : Int)) % 256 = (u : Int) by omega]
  | case2 u h ih =>
    intro acc hu hl
    have hlen : (uv (u / 128)).length + 1 = (uv u).length := by rw [uv_ge h]; rfl
    refine Ev.step (fun k => rfl) (Ev.pos (by omega) (Ev.pos (by omega) ?_))
    have e1 : bits BinOp.or IntKind.u8 ((u : Int) % 256) 128 = ((u % 128 + 128 : Nat) : Int) := by
      have := or128 ⟨u % 256, Nat.mod_lt _ (by decide)⟩
      simp only at this
      rw [show ((u : Int) % 256) = ((u % 256 : Nat) : Int) by omega, this]
      congr 1; omega
    have e2 : ((u : Int) / 128) = ((u / 128 : Nat) : Int) := by omega
    rw [e1, e2]
    have := ih (acc ++ [((u % 128 + 128 : Nat) : Int)]) (by omega) (by rw [List.length_append]; simp only [List.length_cons, List.length_nil]; omega)
    rw [List.append_assoc] at this
    rw [uv_ge h]
    exact this
theorem putInt_ev (n : Nat) (h : n < 4294967296) : Ev (fun k => wire_PutInt.f k [] (n : Int)) (uv (2 * n)) := by
  unfold wire_PutInt.f
  refine Ev.have_ (a := []) (by simp [slices_Clone_byte_byte.f]) ?_
  have e1 : IntKind.u64.wrap (n : Int) = (n : Int) := by rw [IntKind.wrap_u64]; omega
  have e2 : IntKind.u64.wrap ((n : Int) * 2) = ((2 * n : Nat) : Int) := by rw [IntKind.wrap_u64]; omega
  have e3 : IntKind.u64.wrap ((n : Int) / 9223372036854775808) = ((0 : Nat) : Int) := by rw [IntKind.wrap_u64]; omega
  rw [e1, e2, e3, bits_xor_u64_nat _ _ (by omega) (by decide), Nat.xor_zero]
  have := uv_short h
  exact putInt_loop (2 * n) [] (by omega) (by simp only [List.length_nil]; omega)
theorem putText_ev (s : ByteArray) (h : s.size < 4294967296) : Ev (fun k => wire_PutText.f k [] s) (putT s) := by
  unfold wire_PutText.f
  refine Ev.bind (putInt_ev s.size h) ?_
  have := uv_short h
  exact Ev.pos (by omega) (Ev.val rfl)
theorem xori (n : Nat) (h : n < 9223372036854775808) : bits BinOp.xor IntKind.i64 (n : Int) 0 = (n : Int) := by
  have h1 : (BitVec.ofInt 64 (n : Int)).toNat = n := by
    rw [BitVec.ofInt_natCast, BitVec.toNat_ofNat]; exact Nat.mod_eq_of_lt (by omega)
  show IntKind.i64.wrap ((BitVec.ofInt 64 (n : Int) ^^^ BitVec.ofInt 64 0).toNat : Int) = _
  rw [show BitVec.ofInt 64 0 = 0#64 from rfl, BitVec.xor_zero, h1]
  simp [IntKind.wrap, IntKind.bits, IntKind.signed]
  omega
theorem unv_last : ∀ (u : Nat), 1 < (uv u).length → (uv u).getD ((uv u).length - 1) 0 ≠ 0 := by
  intro u
  induction u using uv.induct with
  | case1 u h => intro h1; rw [uv_lt h] at h1; simp at h1
  | case2 u h ih =>
    intro _
    rw [uv_ge h, List.length_cons, Nat.add_sub_cancel]
    have hp := uv_pos (u / 128)
    obtain ⟨m, hm⟩ : ∃ m, (uv (u / 128)).length = m + 1 := ⟨_, (Nat.succ_pred_eq_of_pos hp).symm⟩
    rw [hm]
    show (uv (u / 128)).getD m 0 ≠ 0
    by_cases h1 : 1 < (uv (u / 128)).length
    · have := ih h1
      rw [hm, Nat.add_sub_cancel] at this
      exact this
    · have : u / 128 < 128 := by
        by_cases h2 : u / 128 < 128
        · exact h2
        · rw [uv_ge h2, List.length_cons] at h1
          have := uv_pos (u / 128 / 128)
          omega
      rw [uv_lt this] at hm ⊢
      have hm0 : m = 0 := by simpa using hm.symm
      rw [hm0]
      show ((u / 128 : Nat) : Int) ≠ 0
      omega
theorem takeInt_ev (pre rest : List Int) (n : Nat) (h : n < 4294967296) (hb : byteL (pre ++ (uv (2 * n) ++ rest))) (hl : (pre ++ (uv (2 * n) ++ rest)).length < 4611686018427387904) :
    Ev (fun k => wire_TakeInt.f k (pre ++ (uv (2 * n) ++ rest)) (pre.length : Int)) ((n : Int), ((pre.length + (uv (2 * n)).length : Nat) : Int), true) := by
  have hu := uv_short h
  have hp := uv_pos (2 * n)
  have hlast := unv_last (2 * n)
  have hlen : (pre ++ (uv (2 * n) ++ rest)).length = pre.length + ((uv (2 * n)).length + rest.length) := by simp
  generalize hL : pre ++ (uv (2 * n) ++ rest) = L at *
  unfold wire_TakeInt.f
  refine Ev.neg (by omega) ?_
  rw [decide_eq_false (by omega)]
  refine Ev.step (fun k => rfl) (Ev.pos (by omega) ?_)
  have hdrop : L.drop (pre.length : Int).toNat = uv (2 * n) ++ rest := by
    rw [← hL]; simp
  have hbits : wire_bits.f (L.drop (pre.length : Int).toNat) = some (((2 * n : Nat) : Int), ((uv (2 * n)).length : Int)) := by
    rw [hdrop]
    unfold wire_bits.f
    rw [unv_uv]
    simp only
    rw [if_pos ⟨by omega, by omega, isB_of (fun x hx => hb x (by rw [← hL]; exact List.mem_append_right _ hx))⟩]
  refine Ev.have_ hbits (Ev.neg (by simp only; omega) ?_)
  have e0 : Go.bits .and .u64 ((2 * n : Nat) : Int) 1 = 0 := by
    have := bits_mask .u64 64 (by decide) wraps_u64 1 (by decide) ((2 * n : Nat) : Int) (by omega) (by omega)
    have e : ((2 : Int) ^ 1 - 1) = 1 := by decide
    rw [e] at this
    rw [this]; omega
  have e1 : wrap64 (((2 * n : Nat) : Int) / 2) = (n : Int) := by rw [w64 (by omega)]; omega
  have e2 : wrap64 (-(wrap64 0)) = 0 := by unfold wrap64; omega
  have e3 : wrap64 ((pre.length : Int) + ((uv (2 * n)).length : Int)) = ((pre.length + (uv (2 * n)).length : Nat) : Int) := by rw [w64 (by omega)]; omega
  simp only [e0, e1, e2, e3, xori n (by omega)]
  by_cases h1 : 1 < (uv (2 * n)).length
  · refine Ev.pos (by omega) ?_
    have e4 : wrap64 (((pre.length + (uv (2 * n)).length : Nat) : Int) - 1) = ((pre.length + ((uv (2 * n)).length - 1) : Nat) : Int) := by rw [w64 (by omega)]; omega
    rw [e4]
    refine Ev.pos (by omega) (Ev.pos (by omega) (Ev.neg ?_ (Ev.now _)))
    have : rd L ((pre.length + ((uv (2 * n)).length - 1) : Nat) : Int) = (uv (2 * n)).getD ((uv (2 * n)).length - 1) 0 := by
      unfold rd
      rw [Int.toNat_natCast, ← hL, List.getD_eq_getElem?_getD, List.getD_eq_getElem?_getD, List.getElem?_append_right (by omega), Nat.add_sub_cancel_left, List.getElem?_append_left (by omega)]
    rw [this]
    exact hlast h1
  · exact Ev.neg (by omega) (Ev.now _)
theorem strOf_bytes (s : ByteArray) : strOfNums (bytesOf s) = s := by
  apply ba_ext
  unfold strOfNums bytesOf
  simp only [List.map_map]
  show s.data.toList.map (fun b => UInt8.ofNat ((b.toNat : Int)).toNat) = _
  conv => rhs; rw [← List.map_id s.data.toList]
  exact List.map_congr_left (fun b _ => by simp)
theorem takeText_ev (pre rest : List Int) (s : ByteArray) (h : s.size < 4294967296) (hb : byteL (pre ++ (putT s ++ rest))) (hl : (pre ++ (putT s ++ rest)).length < 4611686018427387904) :
    Ev (fun k => wire_TakeText.f k (pre ++ (putT s ++ rest)) (pre.length : Int) ((pre ++ (putT s ++ rest)).length : Int)) (s, ((pre.length + (putT s).length : Nat) : Int), true) := by
  unfold wire_TakeText.f
  have hput : pre ++ (putT s ++ rest) = pre ++ (uv (2 * s.size) ++ (bytesOf s ++ rest)) := by unfold putT; rw [List.append_assoc]
  have ht := takeInt_ev pre (bytesOf s ++ rest) s.size h (by rw [← hput]; exact hb) (by rw [← hput]; exact hl)
  rw [← hput] at ht
  have hbl := bytesOf_length s
  have hpl : (putT s).length = (uv (2 * s.size)).length + s.size := by unfold putT; rw [List.length_append, hbl]
  have hlen : (pre ++ (putT s ++ rest)).length = pre.length + ((uv (2 * s.size)).length + s.size + rest.length) := by simp [hpl]
  refine Ev.bind ht ?_
  simp only
  have e1 : wrap64 (((pre ++ (putT s ++ rest)).length : Int) - ((pre.length + (uv (2 * s.size)).length : Nat) : Int)) = ((s.size + rest.length : Nat) : Int) := by rw [w64 (by omega)]; omega
  have e2 : wrap64 (((pre.length + (uv (2 * s.size)).length : Nat) : Int) + (s.size : Int)) = ((pre.length + (putT s).length : Nat) : Int) := by rw [w64 (by omega)]; omega
  rw [e1, e2]
  refine Ev.pos (by trivial) (Ev.neg (by omega) (Ev.neg (by omega) (Ev.neg (by omega) (Ev.pos (by omega) (Ev.pos (by omega) (Ev.pos (by omega) (Ev.val ?_)))))))
  have e3 : ((pre ++ (putT s ++ rest)).take ((pre.length + (putT s).length : Nat) : Int).toNat).drop ((pre.length + (uv (2 * s.size)).length : Nat) : Int).toNat = bytesOf s := by
    rw [Int.toNat_natCast, Int.toNat_natCast, List.take_length_add_append, List.take_left]
    unfold putT
    rw [← List.append_assoc, ← List.length_append, List.drop_left]
  rw [e3, strOf_bytes]
theorem four_ev (n : Nat) (h : n < 4294967296) : wal_four.f (n : Int) = some (four n) := by
  unfold wal_four.f four
  congr 1
theorem number_ev (n : Nat) (rest : List Int) (h : n < 4294967296) : wal_number.f (four n ++ rest) = some (n : Int) := by
  unfold wal_number.f
  have hl : (four n ++ rest).length = 4 + rest.length := by rw [List.length_append]; rfl
  rw [if_pos (by omega), if_pos (by omega), if_pos (by omega), if_pos (by omega)]
  have r0 : rd (four n ++ rest) 0 = ((n % 256 : Nat) : Int) := rfl
  have r1 : rd (four n ++ rest) 1 = ((n / 256 % 256 : Nat) : Int) := rfl
  have r2 : rd (four n ++ rest) 2 = ((n / 65536 % 256 : Nat) : Int) := rfl
  have r3 : rd (four n ++ rest) 3 = ((n / 16777216 % 256 : Nat) : Int) := rfl
  rw [r0, r1, r2, r3]
  have q0 : ((n % 256 : Nat) : Int) % 4294967296 = ((n % 256 : Nat) : Int) := by omega
  have q1 : ((n / 256 % 256 : Nat) : Int) % 4294967296 * 256 % 4294967296 = ((n / 256 % 256 * 256 : Nat) : Int) := by omega
  have q2 : ((n / 65536 % 256 : Nat) : Int) % 4294967296 * 65536 % 4294967296 = ((n / 65536 % 256 * 65536 : Nat) : Int) := by omega
  have q3 : ((n / 16777216 % 256 : Nat) : Int) % 4294967296 * 16777216 % 4294967296 = ((n / 16777216 % 256 * 16777216 : Nat) : Int) := by omega
  have s1 : bits BinOp.or IntKind.u32 ((n % 256 : Nat) : Int) ((n / 256 % 256 * 256 : Nat) : Int) = ((n % 65536 : Nat) : Int) := by
    rw [u32_or8 _ _ (by omega) (by omega) (by omega) (by omega) (by omega)]; omega
  have s2 : bits BinOp.or IntKind.u32 ((n % 65536 : Nat) : Int) ((n / 65536 % 256 * 65536 : Nat) : Int) = ((n % 16777216 : Nat) : Int) := by
    rw [u32_or16 _ _ (by omega) (by omega) (by omega) (by omega) (by omega)]; omega
  have s3 : bits BinOp.or IntKind.u32 ((n % 16777216 : Nat) : Int) ((n / 16777216 % 256 * 16777216 : Nat) : Int) = (n : Int) := by
    rw [u32_or24 _ _ (by omega) (by omega) (by omega) (by omega) (by omega)]; omega
  rw [q0, q1, q2, q3, s1, s2, s3]
def cut600 (s : ByteArray) : ByteArray := s.extract 0 (min s.size 600)
def fewL (l : List ByteArray) : List ByteArray := (l.take 12).map cut600
theorem cut600_size (s : ByteArray) : (cut600 s).size ≤ 600 := by
  unfold cut600
  rw [ByteArray.size_extract]; omega
theorem few_loop (l : List ByteArray) : ∀ d n, n ≤ l.length → min l.length 12 - n = d → n ≤ 12 → Ev (fun k => tussocklaw05_few.l0 k l ((l.take n).map cut600) (n : Int)) (fewL l) := by
  intro d
  induction d with
  | zero =>
    intro n hn hd h12
    have hend : fewL l = (l.take n).map cut600 := by
      unfold fewL
      by_cases h : l.length ≤ 12
      · rw [List.take_of_length_le (by omega), List.take_of_length_le (by omega)]
      · rw [show n = 12 by omega]
    refine Ev.step (fun k => rfl) ?_
    by_cases h1 : n < l.length
    · exact Ev.pos (by omega) (Ev.neg (by omega) (Ev.val hend.symm))
    · exact Ev.neg (by omega) (Ev.val hend.symm)
  | succ d ih =>
    intro n hn hd h12
    have hlt : n < l.length := by omega
    have e0 : rdOf ByteArray.empty l (n : Int) = l[n] := by
      unfold rdOf
      rw [Int.toNat_natCast, List.getD_eq_getElem?_getD, List.getElem?_eq_getElem hlt]; rfl
    have e1 : mn ((l[n].size : Nat) : Int) 600 = ((min l[n].size 600 : Nat) : Int) := by unfold mn; split <;> omega
    refine Ev.step (fun k => rfl) (Ev.pos (by omega) (Ev.pos (by omega) (Ev.pos (by omega) ?_)))
    rw [e0, e1]
    refine Ev.pos (by omega) (Ev.pos (by omega) (Ev.pos (by rw [List.length_map, List.length_take]; omega) ?_))
    rw [w64 (by omega), Int.toNat_natCast]
    have := ih (n + 1) (by omega) (by omega) (by omega)
    rw [List.take_succ_eq_append_getElem hlt, List.map_append] at this
    exact this
theorem few_ev (l : List ByteArray) : Ev (fun k => tussocklaw05_few.f k l) (fewL l) := few_loop l _ 0 (Nat.zero_le _) rfl (by decide)
theorem fewL_length (l : List ByteArray) : (fewL l).length ≤ 12 := by
  unfold fewL
  rw [List.length_map, List.length_take]; omega
theorem sizes_le (g : List ByteArray) (b : Nat) (h : ∀ s ∈ g, s.size ≤ b) : sizes g ≤ g.length * b := by
  unfold sizes
  induction g with
  | nil => simp
  | cons a r ih =>
    rw [List.map_cons, List.sum_cons, List.length_cons, Nat.add_mul]
    have := h a List.mem_cons_self
    have := ih (fun s hs => h s (List.mem_cons_of_mem _ hs))
    omega
theorem fewL_ok (l : List ByteArray) : GOk (fewL l) ∧ sizes (fewL l) ≤ 7200 := by
  have h1 := fewL_length l
  have h2 := sizes_le (fewL l) 600 (fun s hs => by
    obtain ⟨x, _, rfl⟩ := List.mem_map.1 hs
    exact cut600_size x)
  have h3 : (fewL l).length * 600 ≤ 12 * 600 := Nat.mul_le_mul_right _ h1
  refine ⟨⟨by omega, by omega⟩, by omega⟩
theorem rdL2 (a : List (List ByteArray)) (n : Nat) (h : n < a.length) : rd_L2 a (n : Int) = a[n] := by
  unfold rd_L2
  rw [Int.toNat_natCast, List.getD_eq_getElem?_getD, List.getElem?_eq_getElem h]; rfl
theorem toList_inj {s t : ByteArray} : s.toList = t.toList ↔ s = t := ⟨fun h => by rw [Lib.toList_data, Lib.toList_data] at h; exact ba_ext h, fun h => by rw [h]⟩
theorem same_loop (a b : List (List ByteArray)) (hl : a.length = b.length) (ha : a.length < 4294967296) (hb : ∀ g ∈ a, g.length < 4294967296) : ∀ d n, n ≤ a.length → a.length - n = d → Ev (fun k => tussocklaw05_same.l0 k a b (n : Int)) (decide (a.drop n = b.drop n)) := by
  intro d
  induction d with
  | zero =>
    intro n hn hd
    refine Ev.step (fun k => rfl) (Ev.neg (by omega) (Ev.val ?_))
    rw [List.drop_of_length_le (by omega), List.drop_of_length_le (by omega)]; rfl
  | succ d ih =>
    intro n hn hd
    have hlt : n < a.length := by omega
    have hlt2 : n < b.length := by omega
    have hda : a.drop n = a[n] :: a.drop (n + 1) := List.drop_eq_getElem_cons hlt
    have hdb : b.drop n = b[n] :: b.drop (n + 1) := List.drop_eq_getElem_cons hlt2
    refine Ev.step (fun k => rfl) (Ev.pos (by omega) (Ev.pos (by omega) (Ev.pos (by omega) ?_)))
    rw [rdL2 a n hlt, rdL2 b n hlt2]
    have hgl := hb a[n] (List.getElem_mem hlt)
    by_cases hgg : a[n].length = b[n].length
    · refine Ev.pos (by omega) ?_
      have inner : ∀ e m, m ≤ a[n].length → a[n].length - m = e → Ev (fun k => tussocklaw05_same.l1 k a b (n : Int) (m : Int)) (decide (a[n].drop m = b[n].drop m ∧ a.drop (n + 1) = b.drop (n + 1))) := by
        intro e
        induction e with
        | zero =>
          intro m hm he
          refine Ev.step (fun k => rfl) (Ev.pos (by omega) (Ev.pos (by omega) ?_))
          rw [rdL2 a n hlt]
          refine Ev.neg (by omega) ?_
          rw [w64 (by omega)]
          have := ih (n + 1) (by omega) (by omega)
          have e2 : (decide (a[n].drop m = b[n].drop m ∧ a.drop (n + 1) = b.drop (n + 1))) = decide (a.drop (n + 1) = b.drop (n + 1)) := by
            rw [List.drop_of_length_le (l := a[n]) (by omega), List.drop_of_length_le (l := b[n]) (by omega)]
            simp
          rw [e2]
          exact this
        | succ e ih2 =>
          intro m hm he
          have hm1 : m < a[n].length := by omega
          have hm2 : m < b[n].length := by omega
          refine Ev.step (fun k => rfl) (Ev.pos (by omega) (Ev.pos (by omega) ?_))
          rw [rdL2 a n hlt, rdL2 b n hlt2]
          refine Ev.pos (by omega) (Ev.pos (by omega) (Ev.pos (by omega) (Ev.pos (by omega) ?_)))
          have r1 : rdOf ByteArray.empty a[n] (m : Int) = a[n][m] := by
            unfold rdOf
            rw [Int.toNat_natCast, List.getD_eq_getElem?_getD, List.getElem?_eq_getElem hm1]; rfl
          have r2 : rdOf ByteArray.empty b[n] (m : Int) = b[n][m] := by
            unfold rdOf
            rw [Int.toNat_natCast, List.getD_eq_getElem?_getD, List.getElem?_eq_getElem hm2]; rfl
          rw [r1, r2]
          have hx : a[n].drop m = a[n][m] :: a[n].drop (m + 1) := List.drop_eq_getElem_cons hm1
          have hy : b[n].drop m = b[n][m] :: b[n].drop (m + 1) := List.drop_eq_getElem_cons hm2
          by_cases hc : a[n][m] = b[n][m]
          · refine Ev.pos (toList_inj.2 hc) ?_
            rw [w64 (by omega)]
            have := ih2 (m + 1) (by omega) (by omega)
            have e2 : decide (a[n].drop m = b[n].drop m ∧ a.drop (n + 1) = b.drop (n + 1)) = decide (a[n].drop (m + 1) = b[n].drop (m + 1) ∧ a.drop (n + 1) = b.drop (n + 1)) := by
              rw [hx, hy]
              simp only [List.cons.injEq, hc, true_and]
            rw [e2]
            exact this
          · refine Ev.neg (fun h => hc (toList_inj.1 h)) (Ev.val ?_)
            rw [hx, hy]
            exact (decide_eq_false (fun h => hc (List.cons.inj h.1).1)).symm
      have := inner _ 0 (Nat.zero_le _) rfl
      have e2 : decide (a.drop n = b.drop n) = decide (a[n].drop 0 = b[n].drop 0 ∧ a.drop (n + 1) = b.drop (n + 1)) := by
        rw [hda, hdb]; simp only [List.cons.injEq, List.drop_zero]
      rw [e2]
      exact this
    · refine Ev.neg (by omega) (Ev.val ?_)
      rw [hda, hdb]
      have : a[n] ≠ b[n] := fun h => hgg (by rw [h])
      exact (decide_eq_false (fun h => this (List.cons.inj h).1)).symm
theorem same_ev (a b : List (List ByteArray)) (ha : a.length < 4294967296) (hb : ∀ g ∈ a, g.length < 4294967296) : Ev (fun k => tussocklaw05_same.f k a b) (decide (a = b)) := by
  unfold tussocklaw05_same.f
  by_cases hl : a.length = b.length
  · exact Ev.pos (by omega) (same_loop a b hl ha hb _ 0 (Nat.zero_le _) rfl)
  · refine Ev.neg (by omega) (Ev.val ?_)
    have : a ≠ b := fun h => hl (by rw [h])
    simp [this]
end Go.Proofs.YthlmbgaipbjbhaaDoor.P
end
