/- What a call turns: blocks of its own alone. A log's bytes: numbers, texts, groups and their frames (lists alone). The sum of bytes: wire.Crc, where its table is laid. What the rows of this seat share: the listed table, a world that holds it. A map from names to files, and one from operations to counts. -/
import Derived.Test.YthlmbgaipbjbhaaDoorProg
import Derived.Test.YthlmbgaipbjbhaaDoorWMore
import Derived.Below
import Derived.OwnWalk
import Derived.Deep.OwnRows
import Derived.Tactics
import Derived.WalkKit
import Derived.KernelRfl
import Derived.RowKit3
import Derived.Deep.LoopGhost
import Derived.RegionTactic
import Derived.ChangeAlike
import Derived.BigRegion
import Derived.Maps.OwnSet
import Derived.Lib.Hide
import Derived.RowKit
import Derived.Lib.VarintBits
import Derived.Test.YthlmbgaipbjbhaaDoorCards
import Derived.Test.YthlmbgaipbjbhaaDoorTie
import Derived.ProofKit
import Derived.OpenShut
import Derived.ShutString
import Derived.ChangeOld
import Derived.SizedLaws
import Derived.JoinedCond
import Derived.Deep.CondSized
import Derived.Deep.DeepHandedRow
import Derived.Lib.LaidTab
import Derived.Maps.OwnOps
section
namespace Go.Proofs.YthlmbgaipbjbhaaDoor.L
open Go.RowKit
open Go.Proofs.YthlmbgaipbjbhaaDoorW.PrintWords Go.Proofs.YthlmbgaipbjbhaaDoorW.PrintLast Go.Proofs.YthlmbgaipbjbhaaDoorW.PrintMore
abbrev P (b : Nat) : Value := .pointer (some ⟨b, 0, none⟩)
structure Fr (own : List Nat) (w w' : World) : Prop where
  os : w'.os = w.os
  tape : w'.tape = w.tape
  output : w'.output = w.output
  size : w.heap.size ≤ w'.heap.size
  keep : ∀ k, k < w.heap.size → k ∉ own → w'.heap[k]? = w.heap[k]?
theorem Fr.refl (own : List Nat) (w : World) : Fr own w w := ⟨rfl, rfl, rfl, Nat.le_refl _, fun _ _ _ => rfl⟩
theorem Fr.trans {own own' : List Nat} {w w1 w2 : World} (h : Fr own w w1) (h' : Fr own' w1 w2) (sub : ∀ k ∈ own', k ∈ own ∨ w.heap.size ≤ k) : Fr own w w2 :=
  ⟨h'.os.trans h.os, h'.tape.trans h.tape, h'.output.trans h.output, Nat.le_trans h.size h'.size, fun k hk hn =>
    (h'.keep k (Nat.lt_of_lt_of_le hk h.size) (fun hm => (sub k hm).elim hn (fun e => by omega))).trans (h.keep k hk hn)⟩
theorem Fr.wider {own own' : List Nat} {w w' : World} (h : Fr own w w') (sub : ∀ k ∈ own, k ∈ own' ∨ w.heap.size ≤ k) : Fr own' w w' :=
  ⟨h.os, h.tape, h.output, h.size, fun k hk hn => h.keep k hk (fun hm => (sub k hm).elim hn (fun e => by omega))⟩
theorem Fr.below {own : List Nat} {w w' : World} (h : Fr own w w') {B : Nat} (hB : B ≤ w.heap.size) (ho : ∀ k ∈ own, B ≤ k) : Below B w w' :=
  ⟨h.os, h.tape, h.output, h.size, fun k hk => h.keep k (by omega) (fun hm => by have := ho k hm; omega)⟩
theorem Fr.of_below {w w' : World} (h : Below w.heap.size w w') (own : List Nat) : Fr own w w' := ⟨h.os, h.tape, h.output, h.size, fun k hk _ => h.block k hk⟩
theorem Fr.set {own : List Nat} (w : World) (a : Addr) (v : Value) (h : a.block ∈ own) : Fr own w (w.setCell a v) :=
  ⟨rfl, rfl, rfl, by simp [World.setCell], fun k _ hn => Below.heap_setCell w a v k (fun e => hn (e ▸ h))⟩
theorem Fr.drew {own : List Nat} {w w' : World} (h : Fr own w w') : Fr own w w'.drew := ⟨h.os, h.tape, h.output, h.size, h.keep⟩
theorem Fr.grown {w w' : World} {row : Option Nat} (h : w.grownBy w' row) : Fr row.toList w w' :=
  ⟨h.os, h.tape, h.output, h.size, fun k hk hn => h.block k hk (fun e => hn (by rw [← e]; simp))⟩
theorem Fr.alloc (own : List Nat) (w : World) (o : Obj) : Fr own w (w.alloc o) := Fr.of_below ((Below.refl _ w).alloc (Nat.le_refl _) o) own
theorem Fr.none {own : List Nat} {w w' : World} (h : Fr [] w w') : Fr own w w' := h.wider (fun _ hk => by simp at hk)
theorem Fr.of_drawn {own : List Nat} {w w' : World} (h : Drawn0 w w') : Fr own w w' := by
  obtain ⟨q, rfl⟩ := h
  exact Fr.of_below (pw_below_drewN (Below.refl _ _) q) own
theorem Fr.turned {own : List Nat} {w w' : World} {m : Nat} (h : w.mapTurned w' m) (hm : m ∈ own) : Fr own w w' := by
  obtain ⟨es, clock, es', clock', hb, rfl⟩ := h
  refine ⟨rfl, rfl, rfl, by simp [ChangeMaps.setBlock], fun k hk hn => ?_⟩
  have : m ≠ k := fun e => hn (e ▸ hm)
  simp [ChangeMaps.setBlock, this]
theorem heap_set {w : World} {b off : Nat} {c : Array Value} {e : TypeId} {f : Nat × Nat} (h : w.heap[b]? = some (.cells c e f)) (v : Value) : (w.setCell ⟨b, off, none⟩ v).heap[b]? = some (.cells (c.setIfInBounds off v) e f) := by
  simp [World.setCell, Array.getElem?_modify, h]
theorem cell_of {w : World} {b : Nat} {c : Array Value} {e : TypeId} {f : Nat × Nat} (h : w.heap[b]? = some (.cells c e f)) (i : Nat) : w.cell? ⟨b, i, none⟩ = c[i]? := by
  simp [World.cell?, h]
theorem free_of {w : World} {b : Nat} {c : Array Value} {e : TypeId} (h : w.heap[b]? = some (.cells c e (0, 0))) (i : Nat) : w.frozen? ⟨b, i, none⟩ = false := by
  simp [World.frozen?, h]
theorem lt_of {w : World} {b : Nat} {o : Obj} (h : w.heap[b]? = some o) : b < w.heap.size := (Array.getElem?_eq_some_iff.1 h).1
theorem str_inj {s t : ByteArray} (h : s.toList = t.toList) : s = t := by
  rw [ByteArray.toList_eq, ByteArray.toList_eq] at h
  cases s; cases t
  simp at h
  rw [h]
theorem str_ne {a b : ByteArray} (h : a ≠ b) : a.toList ≠ b.toList := fun e => h (str_inj e)
end Go.Proofs.YthlmbgaipbjbhaaDoor.L
end
section
namespace Go.Proofs.YthlmbgaipbjbhaaDoor.L
open Go.RowKit Go.Lib Go.Maps
open Go.Proofs.YthlmbgaipbjbhaaDoorW.PrintWords Go.Proofs.YthlmbgaipbjbhaaDoorW.PrintLast Go.Proofs.YthlmbgaipbjbhaaDoorW.PrintMore
set_option linter.unusedVariables false
def uv (u : Nat) : List Int := if u < 128 then [(u : Int)] else ((u % 128 + 128 : Nat) : Int) :: uv (u / 128)
termination_by u
decreasing_by omega
theorem uv_lt {u : Nat} (h : u < 128) : uv u = [(u : Int)] := by rw [uv, if_pos h]
theorem uv_ge {u : Nat} (h : ¬ u < 128) : uv u = ((u % 128 + 128 : Nat) : Int) :: uv (u / 128) := by rw [uv, if_neg h]
theorem uv_pos (u : Nat) : 0 < (uv u).length := by
  by_cases h : u < 128
  · rw [uv_lt h]; exact Nat.zero_lt_one
  · rw [uv_ge h]; exact Nat.succ_pos _
theorem uv_len : ∀ (k u : Nat), u < 128 ^ (k + 1) → (uv u).length ≤ k + 1
  | 0, u, h => by rw [uv_lt (by simpa using h)]; exact Nat.le_refl _
  | k + 1, u, h => by
    by_cases h2 : u < 128
    · rw [uv_lt h2]; exact Nat.succ_le_succ (Nat.zero_le _)
    · rw [uv_ge h2, List.length_cons]
      have : u / 128 < 128 ^ (k + 1) := Nat.div_lt_of_lt_mul (by rw [Nat.pow_succ] at h; omega)
      exact Nat.succ_le_succ (uv_len k _ this)
def byteL (l : List Int) : Prop := ∀ x ∈ l, 0 ≤ x ∧ x < 256
theorem byteL_app {a b : List Int} (ha : byteL a) (hb : byteL b) : byteL (a ++ b) := fun x hx => (List.mem_append.1 hx).elim (ha x) (hb x)
theorem uv_byte (u : Nat) : byteL (uv u) := by
  induction u using uv.induct with
  | case1 u h => rw [uv_lt h]; intro x hx; rw [List.mem_singleton.1 hx]; omega
  | case2 u h ih =>
    rw [uv_ge h]
    intro x hx
    rcases List.mem_cons.1 hx with rfl | hx
    · omega
    · exact ih x hx
def putT (s : ByteArray) : List Int := uv (2 * s.size) ++ bytesOf s
theorem bytesOf_byte (s : ByteArray) : byteL (bytesOf s) := fun x hx => by
  obtain ⟨b, _, rfl⟩ := List.mem_map.1 hx
  have := b.toNat_lt
  omega
theorem putT_byte (s : ByteArray) : byteL (putT s) := byteL_app (uv_byte _) (bytesOf_byte s)
def bodyT (g : List ByteArray) : List Int := (g.map putT).flatten
theorem bodyT_cons (s : ByteArray) (g : List ByteArray) : bodyT (s :: g) = putT s ++ bodyT g := rfl
theorem bodyT_append (g h : List ByteArray) : bodyT (g ++ h) = bodyT g ++ bodyT h := by simp [bodyT]
def body (g : List ByteArray) : List Int := uv (2 * g.length) ++ bodyT g
theorem bodyT_byte : ∀ g : List ByteArray, byteL (bodyT g)
  | [] => fun x hx => by cases hx
  | s :: g => byteL_app (putT_byte s) (bodyT_byte g)
theorem body_byte (g : List ByteArray) : byteL (body g) := byteL_app (uv_byte _) (bodyT_byte g)
def sizes (g : List ByteArray) : Nat := (g.map (·.size)).sum
theorem sizes_append (g h : List ByteArray) : sizes (g ++ h) = sizes g + sizes h := by simp [sizes]
theorem uv_short {n : Nat} (h : n < 4294967296) : (uv (2 * n)).length ≤ 5 := uv_len 4 _ (by omega)
theorem bodyT_len : ∀ g : List ByteArray, (∀ s ∈ g, s.size < 4294967296) → (bodyT g).length ≤ 5 * g.length + sizes g ∧ sizes g ≤ (bodyT g).length
  | [], _ => ⟨Nat.le_refl _, Nat.le_refl _⟩
  | s :: g, h => by
    have ih := bodyT_len g (fun x hx => h x (List.mem_cons_of_mem _ hx))
    have h1 := uv_short (h s List.mem_cons_self)
    have e : sizes (s :: g) = s.size + sizes g := by simp [sizes]
    rw [bodyT_cons, List.length_append, e]
    unfold putT
    rw [List.length_append, bytesOf_length, List.length_cons]
    omega
def GOk (g : List ByteArray) : Prop := g.length ≤ 8192 ∧ sizes g ≤ 2097152
theorem GOk.one {g : List ByteArray} (h : GOk g) : ∀ s ∈ g, s.size < 4294967296 := fun s hs => by
  have : s.size ≤ sizes g := by
    have h2 := h.2
    clear h h2
    unfold sizes
    induction g with
    | nil => cases hs
    | cons a r ih =>
      rw [List.map_cons, List.sum_cons]
      rcases List.mem_cons.1 hs with rfl | hs
      · omega
      · have := ih hs; omega
  have := h.2
  omega
theorem GOk.body {g : List ByteArray} (h : GOk g) : (body g).length ≤ 5 + 5 * g.length + sizes g := by
  have h1 := (bodyT_len g h.one).1
  have h2 := uv_short (n := g.length) (by have := h.1; omega)
  unfold L.body
  rw [List.length_append]
  omega
def four (n : Nat) : List Int := [((n % 256 : Nat) : Int), ((n / 256 % 256 : Nat) : Int), ((n / 65536 % 256 : Nat) : Int), ((n / 16777216 % 256 : Nat) : Int)]
theorem four_length (n : Nat) : (four n).length = 4 := rfl
theorem four_byte (n : Nat) : byteL (four n) := fun x hx => by
  simp only [four, List.mem_cons, List.not_mem_nil, or_false] at hx
  rcases hx with rfl | rfl | rfl | rfl <;> omega
def nibs : List Nat := [0, 498536548, 997073096, 651767980, 1994146192, 1802195444, 1303535960, 1342533948, 3988292384, 4027552580, 3604390888, 3412177804, 2607071920, 2262029012, 2685067896, 3183342108]
def half (c : Nat) : Nat := nibs.getD (c % 16) 0 ^^^ c / 16
def crcStep (c x : Nat) : Nat := half (half (c ^^^ x))
def crcFrom (c : Nat) : List Int → Nat
  | [] => c
  | x :: l => crcFrom (crcStep c x.toNat) l
def crc (l : List Int) : Nat := 4294967295 - crcFrom 4294967295 l
theorem half_lt {c : Nat} (h : c < 4294967296) : half c < 4294967296 := by
  have h1 : nibs.getD (c % 16) 0 < 2 ^ 32 := by
    have h2 : ∀ i, i < 16 → nibs.getD i 0 < 2 ^ 32 := by decide
    exact h2 _ (Nat.mod_lt _ (by decide))
  exact Nat.xor_lt_two_pow h1 (Nat.lt_of_le_of_lt (Nat.div_le_self _ _) h)
theorem crc_lt (l : List Int) : crc l < 4294967296 := by unfold crc; omega
def headL (n : Nat) : List Int := four n ++ four (crc (four n))
def enc (g : List ByteArray) : List Int := headL (body g).length ++ body g ++ four (crc (body g))
theorem enc_length (g : List ByteArray) : (enc g).length = 12 + (body g).length := by
  unfold enc headL
  simp only [List.length_append, four_length]
  omega
theorem enc_byte (g : List ByteArray) : byteL (enc g) := byteL_app (byteL_app (byteL_app (four_byte _) (four_byte _)) (body_byte g)) (four_byte _)
theorem GOk.enc {g : List ByteArray} (h : GOk g) : (enc g).length ≤ 17 + 5 * g.length + sizes g := by
  rw [enc_length]; have := h.body; omega
def encs (G : List (List ByteArray)) : List Int := (G.map enc).flatten
theorem encs_append (G H : List (List ByteArray)) : encs (G ++ H) = encs G ++ encs H := by simp [encs]
theorem encs_cons (g : List ByteArray) (G : List (List ByteArray)) : encs (g :: G) = enc g ++ encs G := rfl
theorem encs_one (g : List ByteArray) : encs [g] = enc g := by simp [encs]
theorem encs_byte : ∀ G : List (List ByteArray), byteL (encs G)
  | [] => fun x hx => by cases hx
  | g :: G => byteL_app (enc_byte g) (encs_byte G)
def Tail (t : List Int) : Prop := ∃ g k, GOk g ∧ k < (enc g).length ∧ t = (enc g).take k
theorem Tail.nil : Tail [] := ⟨[], 0, ⟨Nat.zero_le _, Nat.zero_le _⟩, by rw [enc_length]; omega, rfl⟩
theorem Tail.byte {t : List Int} (h : Tail t) : byteL t := by
  obtain ⟨g, k, _, _, rfl⟩ := h
  exact fun x hx => enc_byte g x (List.mem_of_mem_take hx)
end Go.Proofs.YthlmbgaipbjbhaaDoor.L
end
section
namespace Go.Proofs.YthlmbgaipbjbhaaDoor.L
open Go.RowKit Go.Lib Go.Maps
open Go.Proofs.YthlmbgaipbjbhaaDoorW.PrintWords Go.Proofs.YthlmbgaipbjbhaaDoorW.PrintLast Go.Proofs.YthlmbgaipbjbhaaDoorW.PrintMore
set_option linter.unusedVariables false
def Laid (w : World) : Prop := ∀ i, i < 16 → w.cell? ⟨0, i, none⟩ = some (.int .u32 ((nibs.getD i 0 : Nat) : Int))
theorem lies_B {w : World} {A : Option Addr} {l : List Int} (hr : Kd.C (Kd.int .u8) w A l.length l) (h0 : 0 < l.length) :
    ∃ b o, A = some ⟨b, o, none⟩ ∧ b < w.heap.size ∧ ∀ j, j < l.length → w.cell? ⟨b, o + j, none⟩ = some (.int .u8 (l.getD j 0)) := by
  obtain ⟨ad, rfl, hcell⟩ := (Kd.reads_of_C (d := (0 : Int)) hr).2.2 h0
  have h00 := hcell 0 h0
  have hsp : ad.spot = none := by
    have := World.cell?_spot h00
    unfold Addr.add at this
    split at this <;> simp_all
  obtain ⟨b, o, sp⟩ := ad
  simp only at hsp
  subst hsp
  have hb : b < w.heap.size := by
    have := World.block_lt_of_cell? w _ h00
    simpa [Addr.add] using this
  refine ⟨b, o, rfl, hb, fun j hj => ?_⟩
  have := hcell j hj
  have e : (⟨b, o, none⟩ : Addr).add j = ⟨b, o + j, none⟩ := by
    unfold Addr.add
    split
    · rename_i hz; subst hz; rfl
    · rfl
  rw [e] at this
  exact this
theorem xor32 (a b : Nat) (ha : a < 4294967296) (hb : b < 4294967296) : bits BinOp.xor IntKind.u32 (a : Int) (b : Int) = ((a ^^^ b : Nat) : Int) := by
  have hx : a ^^^ b < 2 ^ 32 := Nat.xor_lt_two_pow (by omega) (by omega)
  have h1 : (BitVec.ofInt 32 (a : Int)).toNat = a := by
    rw [BitVec.ofInt_natCast, BitVec.toNat_ofNat]; exact Nat.mod_eq_of_lt (by omega)
  have h2 : (BitVec.ofInt 32 (b : Int)).toNat = b := by
    rw [BitVec.ofInt_natCast, BitVec.toNat_ofNat]; exact Nat.mod_eq_of_lt (by omega)
  show IntKind.u32.wrap ((BitVec.ofInt 32 (a : Int) ^^^ BitVec.ofInt 32 (b : Int)).toNat : Int) = _
  rw [BitVec.toNat_xor, h1, h2, IntKind.wrap_u32]
  omega
theorem not32 (a : Nat) (ha : a < 4294967296) : bits BinOp.xor IntKind.u32 IntKind.u32.max (a : Int) = ((4294967295 - a : Nat) : Int) := by
  have e : IntKind.u32.max = ((4294967295 : Nat) : Int) := by decide
  rw [e, xor32 _ _ (by decide) ha]
  have h := BitVec.allOnes_xor (x := BitVec.ofNat 32 a)
  have h2 := congrArg BitVec.toNat h
  rw [BitVec.toNat_xor, BitVec.toNat_allOnes, BitVec.toNat_not, BitVec.toNat_ofNat, Nat.mod_eq_of_lt (show a < 2 ^ 32 by omega)] at h2
  have h3 : (2 ^ 32 - 1 : Nat) = 4294967295 := by decide
  rw [h3] at h2
  rw [h2]
theorem and15 (a : Nat) (ha : a < 4294967296) : bits BinOp.and IntKind.u32 (a : Int) 15 = ((a % 16 : Nat) : Int) := by
  have := bits_mask .u32 32 (by decide) wraps_u32 4 (by decide) (a : Int) (by omega) (by omega)
  have e : ((2 : Int) ^ 4 - 1) = 15 := by decide
  simp only [e] at this
  rw [this]; omega
theorem nibs_lt (i : Nat) : nibs.getD i 0 < 4294967296 := by
  by_cases h : i < 16
  · have h2 : ∀ i, i < 16 → nibs.getD i 0 < 4294967296 := by decide
    exact h2 _ h
  · rw [List.getD_eq_getElem?_getD, List.getElem?_eq_none (by simp [nibs]; omega)]; decide
set_option maxHeartbeats 4000000 in
set_option maxRecDepth 100000 in
theorem crc_calls (w : World) (hL : Laid w) (k c0 : Nat) (B : Option Addr) (l : List Int) (c : Nat) (hk : w.cell? ⟨k, 0, none⟩ = some (.slice B l.length c)) (hB : Kd.C (Kd.int .u8) w B l.length l) (hl : byteL l) (hlen : l.length < 4611686018427387904) :
    Calls Tryd.prog 46 #[.slice (some ⟨k, 0, none⟩) 1 c0] w fun e w' => e = .returned (.int .u32 (crc l)) ∧ w' = w := by
  have HL := hid hL
  have HB := hid hB
  clear hL hB
  go_enter Tryd.func46, Tryd.ntmps46
  go_wp2
  refine wp_loop_rounds 2 ?_
  rw [rounds_succ]
  go_wp2
  generalize hn : l.length = n at *
  go_loopg [3, 7, 16] n (fun gg s3 _ s16 wr => ∃ (kk cc : Nat), kk ≤ n ∧ n - kk ≤ gg ∧ cc < 4294967296 ∧ s3 = .int .u32 cc ∧ s16 = .int .i64 kk ∧ w = wr ∧ Hid (crcFrom cc (l.drop kk) = crcFrom 4294967295 l))
  case atStart => exact ⟨0, 4294967295, Nat.zero_le _, by omega, by omega, rfl, rfl, rfl, hid rfl⟩
  case round =>
    obtain ⟨kk, cc, hkk, hg, hcc, rfl, rfl, rfl, HA⟩ := hrel
    by_cases hlt : kk < n
    · have hltz : (kk : Int) < (n : Int) := by omega
      obtain ⟨b, o, rfl, hb, hcell⟩ := lies_B (by rw [hn]; exact HB.out) (by omega)
      have hd : l.drop kk = l.getD kk 0 :: l.drop (kk + 1) := by
        rw [List.drop_eq_getElem_cons (by omega), List.getD_eq_getElem?_getD, List.getElem?_eq_getElem (by omega)]; rfl
      have hy := hl (l.getD kk 0) (by rw [List.getD_eq_getElem?_getD, List.getElem?_eq_getElem (by omega)]; exact List.getElem_mem _)
      have hcl := hcell kk (by omega)
      have HA1 := HA.out
      rw [hd] at HA1
      clear HA hd hcell
      generalize l.getD kk 0 = y at hcl HA1 hy
      obtain ⟨x, rfl⟩ := Int.eq_ofNat_of_zero_le hy.1
      have hx : x < 256 := by omega
      have HA2 := hid HA1
      clear HA1 hy
      have e1 : bits BinOp.xor IntKind.u32 (cc : Int) (x : Int) = ((cc ^^^ x : Nat) : Int) := xor32 _ _ hcc (by omega)
      have l1 : cc ^^^ x < 4294967296 := Nat.xor_lt_two_pow (n := 32) hcc (by omega)
      have step : ∀ q : Nat, q < 4294967296 → half q < 4294967296 ∧ bits BinOp.and IntKind.u32 (q : Int) 15 = ((q % 16 : Nat) : Int) ∧ w.cell? ⟨0, q % 16, none⟩ = some (.int .u32 ((nibs.getD (q % 16) 0 : Nat) : Int)) ∧ bits BinOp.xor IntKind.u32 ((nibs.getD (q % 16) 0 : Nat) : Int) ((q : Int) / 16) = ((half q : Nat) : Int) := fun q hq => by
        refine ⟨half_lt hq, ?_, HL.out _ (Nat.mod_lt _ (by decide)), ?_⟩
        · rw [and15 q hq]
        · rw [show ((q : Int) / 16) = ((q / 16 : Nat) : Int) by omega, xor32 _ _ (nibs_lt _) (by omega)]
          rfl
      obtain ⟨l2, a2, t2, x2⟩ := step _ l1
      obtain ⟨l3, a3, t3, x3⟩ := step _ l2
      have hs : crcStep cc x = half (half (cc ^^^ x)) := rfl
      have HA3 := hid (show crcFrom (half (half (cc ^^^ x))) (l.drop (kk + 1)) = _ from HA2.out)
      clear hs HA2 step
      generalize half (half (cc ^^^ x)) = q3 at *
      generalize half (cc ^^^ x) = q2 at *
      generalize cc ^^^ x = q1 at *
      generalize nibs.getD (q1 % 16) 0 = n1 at *
      generalize nibs.getD (q2 % 16) 0 = n2 at *
      have b1 : (((q1 % 16 : Nat) : Int)).toNat = q1 % 16 := rfl
      have b2 : (((q2 % 16 : Nat) : Int)).toNat = q2 % 16 := rfl
      have b3 : q1 % 16 < 16 := Nat.mod_lt _ (by decide)
      have b4 : q2 % 16 < 16 := Nat.mod_lt _ (by decide)
      generalize q1 % 16 = m1 at *
      generalize q2 % 16 = m2 at *
      go_wp2
      go_roundg (n - (kk + 1))
      case measure => omega
      case rel => exact ⟨kk + 1, q3, by omega, by omega, l3, rfl, by go_num, rfl, HA3⟩
    · have hltz : ¬ (kk : Int) < (n : Int) := by omega
      have hr : crcFrom 4294967295 l = cc := by
        have := HA.out
        rw [List.drop_of_length_le (by omega)] at this
        exact this.symm
      have HR := hid hr
      clear hr HA
      have e9 : bits BinOp.xor IntKind.u32 IntKind.u32.max (cc : Int) = ((4294967295 - cc : Nat) : Int) := not32 cc hcc
      go_wp2
      rw [rounds_succ]
      go_wp2
      go_ret
      exact ⟨by unfold crc; rw [HR.out]; rfl, rfl⟩
end Go.Proofs.YthlmbgaipbjbhaaDoor.L
end
section
namespace Go.Proofs.YthlmbgaipbjbhaaDoor.L
open Go.ChangeShapes Go.WideShapes Go.ChangeAt Go.RowKit
set_option linter.unusedVariables false
def nibZ : List Int := nibs.map fun (n : Nat) => (n : Int)
theorem kit_own : ownKnob Tryd.prog.godebug = none := by kernel_rfl
theorem kit_laidOut : laidOutB Tryd.prog = true := by kernel_rfl
noncomputable def laidWorld (os : Os) : World :=
  { World.holding Tryd.prog os ⟨#[], #[], []⟩ with heap := ((World.holding Tryd.prog os ⟨#[], #[], []⟩).heap.modify 0 fun
      | .cells _ t frozen => .cells (nibZ.map fun z => Value.int .u32 z).toArray t frozen
      | o => o) }
theorem laid_of {W : World} (h : laidMetH Tryd.prog [("tussock/wire.nibbles", Rows.laid_tussock_wire_nibbles)] W) : Laid W := by
  have h1 : laidMet Tryd.prog [("tussock/wire.nibbles", Lib.tabData .u32 nibZ)] W := by
    have e : ([("tussock/wire.nibbles", Rows.laid_tussock_wire_nibbles)] : List (String × DataW Unit)).filter (fun x => x.2.handleName?.isSome) = [] := by kernel_rfl
    unfold laidMetH at h
    rw [e] at h
    exact h
  have h2 : Lib.TabIs Tryd.prog W "tussock/wire.nibbles" .u32 nibZ := Lib.tabIs_of_head (g := 0) (t := 121) (n := 16) (e := 101) (by kernel_rfl) (by kernel_rfl) (by kernel_rfl) (by kernel_rfl) (by kernel_rfl) (by kernel_rfl) h1
  intro i hi
  have h3 := h2.cell (g := 0) (by kernel_rfl) i hi
  rw [h3]
  have : nibZ.getD i 0 = ((nibs.getD i 0 : Nat) : Int) := by
    unfold nibZ
    rw [List.getD_eq_getElem?_getD, List.getD_eq_getElem?_getD, List.getElem?_map]
    cases nibs[i]? <;> rfl
  rw [this]
end Go.Proofs.YthlmbgaipbjbhaaDoor.L
end
section
namespace Go.Proofs.YthlmbgaipbjbhaaDoor.L
open Go.RowKit Go.Lib Go.Maps Go.ChangeMaps Go.MapKept Go.WideAt
open Go.Proofs.YthlmbgaipbjbhaaDoorW.PrintWords Go.Proofs.YthlmbgaipbjbhaaDoorW.PrintLast Go.Proofs.YthlmbgaipbjbhaaDoorW.PrintMore
def ptrElem (v : Value) : Option (DataW Nat × List MemPlace) :=
  match v with
  | .pointer none => some (.nil, [])
  | .pointer (some ⟨b, 0, none⟩) => some (.held b, [])
  | _ => none
def ptrOf : Option Nat → Value
  | none => .pointer none
  | some b => P b
def readOr (zd : DataW Nat) : Option Nat → DataW Nat
  | none => zd
  | some b => .held b
theorem ptrElem_inv {v : Value} {o : Option Nat} {ps : List MemPlace} (h : ptrElem v = some (readOr .nil o, ps)) : v = ptrOf o := by
  unfold ptrElem at h
  split at h
  · simp only [Option.some.injEq, Prod.mk.injEq] at h
    cases o with
    | none => rfl
    | some b => simp [readOr] at h
  · simp only [Option.some.injEq, Prod.mk.injEq] at h
    cases o with
    | none => simp [readOr] at h
    | some b => simp only [readOr, DataW.held.injEq] at h; rw [h.1]; rfl
  · cases h
theorem law : Keyed Tryd.prog 9 := string_keyed Tryd.underlying9
theorem zeroP (w : World) : (zeroValue 86).run Tryd.prog w = .ok (.pointer none) w := by kernel_rfl
theorem keyIs {s : ByteArray} (h : s.size ≤ maxLen) : keyOf Tryd.prog 9 (.string s) = some (.string s.data.toList) := Go.WideMaps.keyOf_string_mk Tryd.underlying9 h
def DirAt (w : World) (m n : Nat) (f : ByteArray → Option Nat) : Prop :=
  ∃ D : DataW Nat, w.ownsMap Tryd.prog 9 ptrElem m n D ∧ ∀ (s : ByteArray) (zd : DataW Nat), s.size ≤ maxLen → D.atKey (.string s.data.toList) zd = readOr zd (f s)
theorem lit_ne {s t : ByteArray} (h : s ≠ t) : (Lit.string s.data.toList) ≠ .string t.data.toList := by
  intro e
  injection e with e
  apply h
  cases s; cases t
  simp at e
  rw [e]
section
variable {w : World} {m n : Nat} {f : ByteArray → Option Nat}
theorem DirAt.made (w : World) : DirAt (w.alloc (.map #[] 0)) w.heap.size 0 (fun _ => none) :=
  ⟨.map [], World.ownsMap_made _ _ _ _, fun _ _ _ => rfl⟩
theorem DirAt.lt (h : DirAt w m n f) : m < w.heap.size := by
  obtain ⟨D, h, _⟩ := h
  exact h.lt
theorem DirAt.mono (h : DirAt w m n f) {n' : Nat} (hn : n ≤ n') : DirAt w m n' f := by
  obtain ⟨D, h, hf⟩ := h
  exact ⟨D, h.mono hn, hf⟩
theorem DirAt.keep {w' : World} (h : DirAt w m n f) (hk : w'.heap[m]? = w.heap[m]?) : DirAt w' m n f := by
  obtain ⟨D, ⟨es, clock, hb, r⟩, hf⟩ := h
  exact ⟨D, ⟨es, clock, hk.trans hb, r⟩, hf⟩
theorem DirAt.look (h : DirAt w m n f) {s : ByteArray} (hs : s.size ≤ maxLen) : (Instr.lookup 66 (.map (some m)) (.string s) false).run Tryd.prog w = .ok (ptrOf (f s)) w := by
  obtain ⟨D, h, hf⟩ := h
  obtain ⟨v, ps, hrun, hv⟩ := h.lookup law Tryd.underlying66 (zeroP w) (zd := .nil) (zp := []) rfl (keyIs hs)
  rw [hf s .nil hs] at hv
  rw [← ptrElem_inv hv]
  exact hrun
end
section
variable (w : World) {ops : Array Oper} {rest : List Oper} {o : Oper} {a : Act} {Q : Exit → Act → World → Prop} {m n : Nat} {f : ByteArray → Option Nat}
theorem wpList_drop (hg : o.guard = none) (x y : Operand) (hop : o.op = Op.call { callee := Callee.builtin Builtin.delete, args := #[x, y], argTypes := #[66, 9] })
    (hm : a.eval x = .map (some m)) (h : DirAt w m n f) (s : ByteArray) (hy : a.eval y = .string s) (hs : s.size ≤ maxLen)
    (hK : ∀ w', DirAt w' m n (fun t => if t = s then none else f t) → w.mapTurned w' m → wpList Tryd.prog ops Q rest (a.put o.dst (.tuple #[])) w') :
    wpList Tryd.prog ops Q (o :: rest) a w := by
  obtain ⟨D, h, hf⟩ := h
  refine wpList_delete_own w hg x y 66 9 hop 86 law Tryd.underlying66 ptrElem m n D hm h (.string s) (.string s.data.toList) hy (keyIs hs) ?_
  intro w' h' ht
  refine hK w' ⟨D.del (.string s.data.toList), h', fun t zd hts => ?_⟩ ht
  show _ = readOr zd (if t = s then none else f t)
  by_cases e : t = s
  · rw [if_pos e, e, atKey_del_same]; rfl
  · rw [if_neg e, atKey_del_other (lit_ne e)]
    exact hf t zd hts
theorem wpList_lay (hg : o.guard = none) (x y z : Operand) (hop : o.op = Op.mapUpdate 66 x y z)
    (hm : a.eval x = .map (some m)) (h : DirAt w m n f) (hn : n < maxLen) (s : ByteArray) (b : Nat) (hy : a.eval y = .string s) (hz : a.eval z = L.P b) (hs : s.size ≤ maxLen)
    (hK : ∀ w', DirAt w' m (n + 1) (fun t => if t = s then some b else f t) → w.mapTurned w' m → wpList Tryd.prog ops Q rest (a.put o.dst undef) w') :
    wpList Tryd.prog ops Q (o :: rest) a w := by
  obtain ⟨D, h, hf⟩ := h
  refine wpList_mapUpdate_in w hg x y z 66 hop 9 86 law Tryd.underlying66 ptrElem m n D hm h hn (.string s) (L.P b) (.string s.data.toList) hy hz (keyIs hs) (.held b) [] rfl ?_
  intro w' h' ht
  refine hK w' ⟨D.put (.string s.data.toList) (.held b), h', fun t zd hts => ?_⟩ ht
  show _ = readOr zd (if t = s then some b else f t)
  by_cases e : t = s
  · rw [if_pos e, e, atKey_put_same h.isMap (by simp [Go.WideAt.IsKeyLit])]; rfl
  · rw [if_neg e, atKey_put_other (lit_ne e)]
    exact hf t zd hts
end
abbrev i64D (n : Int) : DataW Nat := .lit (.int .i64 n)
theorem zeroI (w : World) : (zeroValue 3).run Tryd.prog w = .ok (.int .i64 0) w := by kernel_rfl
theorem lawI : Keyed Tryd.prog 3 := int_keyed Tryd.underlying3
theorem keyI {k : Int} (h : (Lit.int .i64 k).wf = true) : keyOf Tryd.prog 3 (.int .i64 k) = some (.int .i64 k) := by
  simp [keyOf, Tryd.underlying3, mapKey, h]
def FailAtM (w : World) (m n : Nat) (f : Int → Int) : Prop :=
  ∃ D : DataW Nat, w.ownsMap Tryd.prog 3 (plainElem Tryd.prog 3) m n D ∧ ∀ k : Int, (Lit.int .i64 k).wf = true → D.atKey (.int .i64 k) (i64D 0) = i64D (f k)
section
variable {w : World} {m n : Nat} {f : Int → Int}
theorem FailAtM.made (w : World) : FailAtM (w.alloc (.map #[] 0)) w.heap.size 0 (fun _ => 0) :=
  ⟨.map [], World.ownsMap_made _ _ _ _, fun _ _ => rfl⟩
theorem FailAtM.lt (h : FailAtM w m n f) : m < w.heap.size := by
  obtain ⟨D, h, _⟩ := h
  exact h.lt
theorem FailAtM.mono (h : FailAtM w m n f) {n' : Nat} (hn : n ≤ n') : FailAtM w m n' f := by
  obtain ⟨D, h, hf⟩ := h
  exact ⟨D, h.mono hn, hf⟩
theorem FailAtM.keep {w' : World} (h : FailAtM w m n f) (hk : w'.heap[m]? = w.heap[m]?) : FailAtM w' m n f := by
  obtain ⟨D, ⟨es, clock, hb, r⟩, hf⟩ := h
  exact ⟨D, ⟨es, clock, hk.trans hb, r⟩, hf⟩
theorem FailAtM.look (h : FailAtM w m n f) {k : Int} (hk : (Lit.int .i64 k).wf = true) : (Instr.lookup 67 (.map (some m)) (.int .i64 k) false).run Tryd.prog w = .ok (.int .i64 (f k)) w := by
  obtain ⟨D, h, hf⟩ := h
  obtain ⟨c, hrun, hat, _⟩ := h.lookup_int lawI Tryd.underlying67 Tryd.underlying3 (zeroI w) (keyI hk)
  have e := hat.symm.trans (hf k hk)
  simp only [DataW.lit.injEq, Lit.int.injEq, true_and] at e
  rw [← e]
  exact hrun
end
section
variable (w : World) {ops : Array Oper} {rest : List Oper} {o : Oper} {a : Act} {Q : Exit → Act → World → Prop} {m n : Nat} {f : Int → Int}
theorem wpList_fail (hg : o.guard = none) (x y z : Operand) (hop : o.op = Op.mapUpdate 67 x y z)
    (hm : a.eval x = .map (some m)) (h : FailAtM w m n f) (hn : n < maxLen) (k : Int) (b : Int) (hy : a.eval y = .int .i64 k) (hz : a.eval z = .int .i64 b) (hk : (Lit.int .i64 k).wf = true) (hb : (Lit.int .i64 b).wf = true)
    (hK : ∀ w', FailAtM w' m (n + 1) (fun t => if t = k then b else f t) → w.mapTurned w' m → wpList Tryd.prog ops Q rest (a.put o.dst undef) w') :
    wpList Tryd.prog ops Q (o :: rest) a w := by
  obtain ⟨D, h, hf⟩ := h
  refine wpList_mapUpdate_in w hg x y z 67 hop 3 3 lawI Tryd.underlying67 (plainElem Tryd.prog 3) m n D hm h hn (.int .i64 k) (.int .i64 b) (.int .i64 k) hy hz (keyI hk) (i64D b) [] (plainElem_int Tryd.underlying3 hb) ?_
  intro w' h' ht
  refine hK w' ⟨D.put (.int .i64 k) (i64D b), h', fun t hts => ?_⟩ ht
  show _ = i64D (if t = k then b else f t)
  by_cases e : t = k
  · rw [if_pos e, e, atKey_put_same h.isMap (by simp [Go.WideAt.IsKeyLit])]
  · rw [if_neg e, atKey_put_other (by intro h; injection h with _ h; exact e h)]
    exact hf t hts
end
end Go.Proofs.YthlmbgaipbjbhaaDoor.L
end
