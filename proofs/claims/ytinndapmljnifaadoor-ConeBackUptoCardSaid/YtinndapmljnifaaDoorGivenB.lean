/- Contract by hand, as cone.Of calls it: slices.SortFunc with path.Compare. -/
import Derived.Test.YtinndapmljnifaaDoorGivenA
import Derived.Test.YtinndapmljnifaaDoorPath
import Derived.Shelf.SlSortCmp.NoneTotal
namespace Go.Proofs.YtinndapmljnifaaDoor.P
open Go.RowKit Go.Lib Go.Sort Go.Shelf
open Go.Proofs.YtinndapmljnifaaDoorW.PrintWords Go.Proofs.YtinndapmljnifaaDoorW.PrintLast Go.Proofs.YtinndapmljnifaaDoorW.PrintMore
structure Short where
  val : ByteArray
  small : val.size < 4611686018427387904
theorem Short.eq_ {x y : Short} (h : x.val = y.val) : x = y := by
  cases x; cases y; cases h; rfl
instance : Inhabited Short := ⟨⟨ByteArray.empty, by decide⟩⟩
def encB (b : Short) : Value := .string b.1
def cmpB (x y : ByteArray) : Int := cmpL x.data.toList y.data.toList
def cfB (x y : Short) : Int := cmpB x.1 y.1
def leB (x y : ByteArray) : Bool := !decide (cmpB y x < 0)
def sortB (l : List ByteArray) : List ByteArray := l.mergeSort leB
theorem cmpB_swap (x y : ByteArray) : cmpB y x = -cmpB x y := cmpL_swap _ _
theorem cmpB_trans (x y z : ByteArray) (h1 : cmpB x y ≤ 0) (h2 : cmpB y z ≤ 0) : cmpB x z ≤ 0 := cmpL_trans _ _ _ h1 h2
theorem cmpB_zero (x y : ByteArray) : cmpB x y = 0 ↔ x = y := by
  unfold cmpB
  rw [cmpL_zero]
  constructor
  · intro h
    rw [← ba_of x, ← ba_of y, h]
  · intro h; rw [h]
theorem lt_true (x y : Short) : ltOf cfB x y = true ↔ cmpB x.1 y.1 < 0 := decide_eq_true_iff
theorem lt_false (x y : Short) : ltOf cfB x y = false ↔ ¬ cmpB x.1 y.1 < 0 := decide_eq_false_iff_not
theorem swoB : SWO (ltOf cfB) where
  irrefl x := by
    have := (cmpB_zero x.1 x.1).2 rfl
    rw [lt_false]; omega
  trans x y z h1 h2 := by
    rw [lt_true] at *
    have a := cmpB_trans x.1 y.1 z.1 (by omega) (by omega)
    have s := cmpB_swap x.1 y.1
    have b : cmpB x.1 z.1 ≠ 0 := fun e => by
      have b1 := cmpB_trans y.1 z.1 x.1 (by omega) (by have := cmpB_swap x.1 z.1; omega)
      omega
    omega
  ntrans x y z h1 h2 := by
    rw [lt_false] at *
    have s1 := cmpB_swap x.1 y.1
    have s2 := cmpB_swap y.1 z.1
    have s3 := cmpB_swap x.1 z.1
    have a := cmpB_trans z.1 y.1 x.1 (by omega) (by omega)
    omega
theorem totB (x y : Short) (h1 : ltOf cfB x y = false) (h2 : ltOf cfB y x = false) : x = y := by
  rw [lt_false] at *
  have s1 := cmpB_swap x.1 y.1
  exact Short.eq_ ((cmpB_zero _ _).1 (by omega))
theorem cmp_is (x y : Short) : ∃ k, path_Compare.f k x.1 y.1 = some (cfB x y) := by
  have h := cmp_ev x.1.data.toList y.1.data.toList (by rw [← Lib.size_eq]; exact x.2)
  rw [ba_of, ba_of] at h
  obtain ⟨k, hk⟩ := h
  exact ⟨k, hk k (Nat.le_refl _)⟩
theorem cmp_reads (blk off size : Nat) (w : World) : CmpReads Tryd.prog 36 #[] encB cfB blk off size w := by
  intro m os dk hs x y
  obtain ⟨k, hk⟩ := cmp_is x y
  refine (path_Compare.calls k x.1 y.1 _ _ hk).mono ?_
  rintro e w' ⟨rfl, ⟨q, hq⟩⟩
  exact ⟨rfl, q, hq⟩
theorem heap_sortB {w : World} {g n : Nat} {os : Array Obj} {cur : Array Value} {e : TypeId} {fr : Nat × Nat} (d : Array Short) (hb : w.heap[g]? = some (.cells cur e fr)) :
    (sortWorld encB w g 0 n d os).heap[g]? = some (.cells (putCells encB 0 d cur) e fr) := by
  have hg : g < w.heap.size := (Array.getElem?_eq_some_iff.1 hb).1
  unfold sortWorld
  rw [heap_grow_old _ _ (by simpa using hg)]
  simp [putRow, mapBlock, Sort.ahead, Array.getElem?_modify, hb, onCells]
theorem grownBy_sortB {w : World} {g n : Nat} {os : Array Obj} (d : Array Short) : w.grownBy (sortWorld encB w g 0 n d os) (some g) := by
  refine ⟨rfl, rfl, rfl, by simp [sortWorld], fun k hk hne => ?_⟩
  unfold sortWorld
  rw [heap_grow_old _ _ (by simpa using hk)]
  have : g ≠ k := fun e => hne (by rw [e])
  simp [putRow, mapBlock, Sort.ahead, Array.getElem?_modify, this]
theorem take_sortB (cur : Array Value) (ts : List Short) (h : ts.length ≤ cur.size) : (putCells encB 0 ts.toArray cur).toList.take ts.length = ts.map encB := by
  apply List.ext_getElem?
  intro j
  by_cases hj : j < ts.length
  · rw [List.getElem?_take_of_lt hj, Array.getElem?_toList]
    simp [putCells, hj, show j < cur.size by omega]
  · rw [List.getElem?_take_eq_none (by omega), List.getElem?_eq_none (by simp; omega)]
theorem holds_sortB {w : World} {g : Nat} {cur : Array Value} {e : TypeId} {ss : List Short} (hb : w.heap[g]? = some (.cells cur e (0, 0))) (ht : cur.toList.take ss.length = ss.map encB) : Holds encB w g 0 ss.toArray := by
  intro j hj
  have hj' : j < ss.length := by simpa using hj
  refine ⟨?_, by simp [World.frozen?, hb]⟩
  have h1 : (cur.toList.take ss.length)[j]? = (ss.map encB)[j]? := by rw [ht]
  rw [List.getElem?_take_of_lt hj'] at h1
  simp only [World.cell?, hb, Nat.zero_add]
  simp only [Option.isSome_none, Bool.false_eq_true, if_false]
  rw [← Array.getElem?_toList, h1]
  simp [hj']
def shorts (l : List ByteArray) (h : ∀ x ∈ l, x.size < 4611686018427387904) : List Short := l.attach.map fun x => ⟨x.1, h x.1 x.2⟩
theorem shorts_val (l : List ByteArray) (h) : (shorts l h).map Short.val = l := by
  unfold shorts
  rw [List.map_map]
  exact List.attach_map_subtype_val l
theorem shorts_enc (l : List ByteArray) (h) : (shorts l h).map encB = encs Value.string l := by
  have e : encB = Value.string ∘ Short.val := rfl
  rw [e, ← List.map_map, shorts_val]; rfl
theorem shorts_length (l : List ByteArray) (h) : (shorts l h).length = l.length := by
  unfold shorts; simp
theorem sorted_val (s : List Short) : (s.mergeSort fun x y => !(ltOf cfB) y x).map Short.val = sortB (s.map Short.val) :=
  List.map_mergeSort (fun _ _ _ _ => rfl)
def slices_SortFunc_string_string.f (l : List ByteArray) : Option (List ByteArray) := if l.length < 4611686018427387904 ∧ (∀ x ∈ l, x.size < 4611686018427387904) then some (sortB l) else none
set_option maxHeartbeats 2000000 in
theorem slices_SortFunc_string_string.sorts {w0 w : World} {v : Value} {l r : List ByteArray} (HO : Kd.R Kd.string 9 w w0.heap.size (fun _ => True) v l) (HB : Below w0.heap.size w0 w) (h : slices_SortFunc_string_string.f l = some r) :
    Calls Tryd.prog 35 #[v, .func (.func 36) #[] #[]] w fun e w' => e = .returned (.tuple #[]) ∧ Kd.R Kd.string 9 w' w0.heap.size (fun _ => True) v r ∧ Below w0.heap.size w0 w' := by
  unfold slices_SortFunc_string_string.f at h
  split at h
  · rename_i hc
    obtain ⟨hl, hs⟩ := hc
    obtain rfl := Option.some.inj h
    have ho := Kd.own_of_R HO
    rcases Nat.eq_zero_or_pos l.length with h0 | h0
    · obtain rfl := List.eq_nil_of_length_eq_zero h0
      obtain ⟨A, c, hv⟩ := Kd.R_slice HO
      subst hv
      refine (Tryd.slices_SortFunc_none (α := Short) A c (.func (.func 36) #[] #[]) w).mono ?_
      rintro e w' ⟨rfl, rfl⟩
      exact ⟨rfl, by simpa [sortB] using HO, HB⟩
    · rcases ho.2 with ⟨_, he⟩ | ⟨g, cap, cur, rfl, hbase, hb, hn, hm, hcs, ht⟩
      · omega
      · rw [Nat.mul_one] at ht
        have hlen := shorts_length l hs
        have hH : Holds encB w g 0 (shorts l hs).toArray := holds_sortB hb (by rw [hlen, ht, shorts_enc])
        have hg : g < w.heap.size := (Array.getElem?_eq_some_iff.1 hb).1
        have hsz : (shorts l hs).toArray.size = l.length := by rw [List.size_toArray, hlen]
        have hcall := Tryd.slices_SortFunc_total encB (fun _ => rfl) cfB swoB 36 #[] g 0 cap (shorts l hs).toArray w
          (enters_of Tryd.func36 (by kernel_rfl) rfl) (cmp_reads g 0 _ w).lays hH hg (by rw [hsz]; exact hl) totB
        rw [hsz] at hcall
        refine hcall.mono ?_
        rintro e w' ⟨rfl, n, os, rfl⟩
        have hval := sorted_val (shorts l hs)
        rw [shorts_val] at hval
        rw [List.toList_toArray]
        generalize ((shorts l hs).mergeSort fun x y => !(ltOf cfB) y x) = ts at hval ⊢
        have hr : (sortB l).length = l.length := List.length_mergeSort _
        have htl : ts.length = l.length := by rw [← hr, ← hval, List.length_map]
        refine ⟨rfl, Kd.R_of_own (h1 := fun _ => rfl) ?_ (fun _ _ => trivial), HB.grown (grownBy_sortB _) HB.size (fun k hk => by injection hk with hk; omega)⟩
        refine ⟨by rw [encs_length, Nat.mul_one], .inr ⟨g, cap, _, by rw [hr], hbase, heap_sortB _ hb, by omega, hm, by simp [putCells, hcs], ?_⟩⟩
        rw [Nat.mul_one, hr, ← htl, take_sortB cur ts (by omega)]
        have e : encB = Value.string ∘ Short.val := rfl
        rw [e, ← List.map_map, hval]; rfl
  · cases h
def tussocklaw18_few.f (l0 : List ByteArray) : Option (List ByteArray) := some (l0.take 200)
attribute [local go_sem] max2_int min2_int max_two min_two
set_option maxHeartbeats 2000000 in
set_option maxRecDepth 100000 in
theorem few_walk (A0 : Option Addr) (c0 n : Nat) (w : World) (hc0 : n ≤ c0) :
    Calls Tryd.prog 11 #[.slice A0 n c0] w fun e w' => e = .returned (.slice A0 (min 200 n) c0) ∧ Drawn0 w w' := by
  rcases Nat.lt_or_ge 200 n with h | h
  · have e1 : (if (200 : Int) < (n : Int) then (200 : Int) else (n : Int)) = 200 := if_pos (by omega)
    have e2 : (if 200 < n then (200 : Int) else (n : Int)) = 200 := if_pos h
    have e3 : min 200 n = 200 := Nat.min_eq_left (by omega)
    have e4 : (200 ≤ n) = True := eq_true (by omega)
    have e5 : (200 ≤ c0) = True := eq_true (by omega)
    rw [e3]
    go_enter Tryd.func11, Tryd.ntmps11
    go_wp2
    repeat (go_quiet (fail); try go_wp2)
    go_ret
    exact ⟨rfl, by repeat (first | exact Drawn0.refl _ | apply Drawn0.step)⟩
  · have e1 : (if (200 : Int) < (n : Int) then (200 : Int) else (n : Int)) = n := if_neg (by omega)
    have e2 : (if 200 < n then (200 : Int) else (n : Int)) = n := if_neg (by omega)
    have e3 : min 200 n = n := Nat.min_eq_right (by omega)
    have e4 : (n ≤ c0) = True := eq_true (by omega)
    rw [e3]
    go_enter Tryd.func11, Tryd.ntmps11
    go_wp2
    repeat (go_quiet (fail); try go_wp2)
    go_ret
    exact ⟨rfl, by repeat (first | exact Drawn0.refl _ | apply Drawn0.step)⟩
theorem tussocklaw18_few.calls (A0 : Option Addr) (c0 : Nat) (l0 r : List ByteArray) (w : World) (_hr0 : Kd.C Kd.string w A0 l0.length l0) (hc0 : l0.length ≤ c0) (h : tussocklaw18_few.f l0 = some r) :
    Calls Tryd.prog 11 #[.slice A0 l0.length c0] w fun e w' => e = .returned (.slice A0 r.length c0) ∧ Drawn0 w w' := by
  obtain rfl := Option.some.inj h
  rw [List.length_take]
  exact few_walk A0 c0 _ w hc0
theorem tussocklaw18_few.le {c0 : Nat} {l0 r : List ByteArray} (hc0 : l0.length ≤ c0) (h : tussocklaw18_few.f l0 = some r) : r.length ≤ c0 := by
  obtain rfl := Option.some.inj h
  rw [List.length_take]; omega
theorem tussocklaw18_few.C {w : World} {A0 : Option Addr} {l0 r : List ByteArray} (hr0 : Kd.C Kd.string w A0 l0.length l0) (h : tussocklaw18_few.f l0 = some r) : Kd.C Kd.string w A0 r.length r := by
  obtain rfl := Option.some.inj h
  refine ⟨rfl, by have := hr0.2.1; rw [List.length_take]; omega, fun hn => ?_⟩
  rw [List.length_take] at hn
  obtain ⟨ad, e, hc⟩ := hr0.2.2 (by omega)
  refine ⟨ad, e, fun j p hp => hc j p ?_⟩
  rw [List.getElem?_take] at hp
  split at hp
  · exact hp
  · cases hp
end Go.Proofs.YtinndapmljnifaaDoor.P
