/- The machine side of cone.Show, by hand. -/
import Derived.Test.YtinndapmljnifaaDoorGivenB
import Derived.Test.YtinndapmljnifaaDoorQx1
namespace Go.Proofs.YtinndapmljnifaaDoor.P
open Go.RowKit Go.Lib Go.Proofs.YtinndapmljnifaaDoor.Q
open Go.Proofs.YtinndapmljnifaaDoorW.PrintWords Go.Proofs.YtinndapmljnifaaDoorW.PrintLast Go.Proofs.YtinndapmljnifaaDoorW.PrintMore
def mute (s : ByteArray) : Bool := s.data.toList == [42] || hasPrefix s.data.toList [35] || decide (0 ≤ indexByte s.data.toList 10)
def lineOf (s : ByteArray) : ByteArray := (if s.data.toList = [] then ⟨#[42]⟩ else s) ++ ⟨#[10]⟩
def showFrom : ByteArray → List ByteArray → Option (ByteArray × Int)
  | b, [] => some (b, 0)
  | b, s :: r => if mute s = true then some (⟨#[]⟩, 180) else if b.size + s.size + 2 ≤ 140737488355328 then showFrom (b ++ lineOf s) r else none
def cone_Show.f (k : Nat) (l0 : List ByteArray) : Option (ByteArray × Int) := (cone_Of.f k l0).bind fun t => if t.2 = 0 then showFrom ⟨#[]⟩ t.1 else some (⟨#[]⟩, t.2)
theorem cone_Show.mono : ∀ a0 k, LeO (cone_Show.f k a0) (cone_Show.f (k + 1) a0) := by
  intro a0 k
  unfold cone_Show.f
  exact LeO.bind (cone_Of.mono _ _) (fun _ => LeO.refl _)
theorem write_calls (B b : Nat) (bs : List Value) (s : ByteArray) (w : World) (h : Lib.IsBuilder 50 5 B b bs w) (hlen : bs.length + s.size ≤ 140737488355328) (hBw : B ≤ w.heap.size) :
    Calls Tryd.prog 40 #[.pointer (some ⟨b, 0, none⟩), .string s] w fun e w' => e = .returned (.tuple #[.int .i64 s.size, .nilIface]) ∧ (Lib.IsBuilder 50 5 B b (bs ++ Lib.strCells s) w' ∧ Below B w w') :=
  (Any.Builder_WriteString { Tryd.lays156 with } Tryd.Builder_Extra_156 B b bs s w h hlen hBw).mono fun _ _ ⟨he, h1, h2⟩ => ⟨he, .inr h1, h2⟩
theorem ba_toList_data (s : ByteArray) : s.toList = s.data.toList := by
  conv => lhs; rw [← ba_of s]
  rw [ba_toList]
set_option maxHeartbeats 4000000 in
set_option maxRecDepth 100000 in
theorem cone_Show.calls (k : Nat) (A0 : Option Addr) (c0 : Nat) (l0 : List ByteArray) (r1 : ByteArray) (r2 : Int) (w : World) (hr0 : Kd.C Kd.string w A0 l0.length l0) (hc0 : l0.length ≤ c0) (h : cone_Show.f k l0 = some (r1, r2)) :
    Calls Tryd.prog 20 #[.slice A0 l0.length c0] w fun e w' => e = .returned (.tuple #[.string r1, .int .i64 r2]) ∧ Below w.heap.size w w' := by
  unfold cone_Show.f at h
  obtain ⟨⟨l, e0⟩, hof, h⟩ := Option.bind_eq_some_iff.1 h
  have hcall := hid (cone_Of.calls k A0 c0 l0 l e0 w hr0 hc0 hof)
  clear hof hr0 hc0
  simp only at h
  by_cases he : e0 = 0
  · rw [if_pos he] at h
    subst he
    have HH := hid h
    clear h
    go_enter Tryd.func20, Tryd.ntmps20
    go_wp2_with (go_at_call 17; refine hcall.out.mono ?_; rintro e w1 ⟨v, rfl, hR, hb⟩; obtain ⟨A, c, rfl⟩ := Kd.R_slice hR)
    have HR := hid (Kd.R_reads' hR)
    have hlen : l.length ≤ 9223372036854775807 := HR.out.2.2.2.1
    clear hR
    have HI0 : Lib.IsBuilder 50 5 w1.heap.size w1.heap.size (Lib.byteCells []) (w1.alloc (.cells #[.pointer none, .slice none 0 0] 50)) := Lib.fresh_isBuilder _ _ w1
    have HB0 : Below w1.heap.size w1 (w1.alloc (.cells #[.pointer none, .slice none 0 0] 50)) := (Below.refl _ w1).alloc (Nat.le_refl _) _
    have HI := Aside0.mk HI0
    have HB := Aside0.mk HB0
    clear HI0 HB0
    go_loopg [19] l.length (fun gg s19 wr => ∃ (kk : Nat) (acc : List UInt8), kk ≤ l.length ∧ l.length - kk ≤ gg ∧ s19 = .int .i64 kk ∧ Aside0 (Lib.IsBuilder 50 5 w1.heap.size w1.heap.size (Lib.byteCells acc) wr) ∧ Aside0 (Below w1.heap.size w1 wr) ∧ Aside0 (showFrom (ba acc) (l.drop kk) = some (r1, r2)))
    case atStart => exact ⟨0, [], Nat.zero_le _, by omega, rfl, HI, HB, ⟨HH.out⟩⟩
    case round =>
      clear HI HB HH
      obtain ⟨kk, acc, hkk, hg, rfl, HI, HB, HA⟩ := hrel
      by_cases hlt : kk < l.length
      · have hltz : (kk : Int) < (l.length : Int) := by omega
        obtain ⟨bq, o, rfl, hbq, hcells⟩ := lies_C HR.out.2.2 (by omega)
        have hcell : wr.cell? ⟨bq, o + kk, none⟩ = some (.string (l.getD kk ByteArray.empty)) := (HB.out.cell (p := ⟨bq, o + kk, none⟩) hbq).trans (hcells kk hlt)
        clear hcells
        have hd : l.drop kk = l.getD kk ByteArray.empty :: l.drop (kk + 1) := by
          rw [List.drop_eq_getElem_cons hlt, List.getD_eq_getElem?_getD, List.getElem?_eq_getElem hlt]; rfl
        have HA1 := HA.out
        clear HA
        rw [hd, showFrom] at HA1
        clear hd
        generalize l.getD kk ByteArray.empty = s at hcell HA1
        have hpre : ∀ W, Calls Tryd.prog 38 #[.string s, .string ⟨#[35]⟩] W fun e w' => e = .returned (.bool (hasPrefix s.data.toList [35])) ∧ w' = W := fun W => Tryd.strings_HasPrefix s ⟨#[35]⟩ W
        have hcon : ∀ W, Calls Tryd.prog 39 #[.string s, .string ⟨#[10]⟩] W fun e w' => e = .returned (.bool (decide (0 ≤ indexByte s.data.toList 10))) ∧ w' = W := fun W => Tryd.strings_Contains_one s 10 W
        have hmu : mute s = (s.data.toList == [42] || hasPrefix s.data.toList [35] || decide (0 ≤ indexByte s.data.toList 10)) := rfl
        generalize hasPrefix s.data.toList [35] = b1 at hpre hmu
        generalize decide (0 ≤ indexByte s.data.toList 10) = b2 at hcon hmu
        have hbw := HB.out.size
        cases hm : mute s with
        | true =>
          rw [hm] at HA1 hmu
          rw [if_pos rfl] at HA1
          simp only [Option.some.injEq, Prod.mk.injEq] at HA1
          obtain ⟨rfl, rfl⟩ := HA1
          have hfin := hb.trans (HB.out.mono hb.size)
          clear hb HB
          cases hq : (s.data.toList == [42]) with
          | true =>
            have hq' : (s.toList == [42]) = true := by rw [ba_toList_data]; exact hq
            clear hmu hq hpre hcon
            go_wp2
            go_ret2
            exact ⟨rfl, hfin⟩
          | false =>
            have hq' : (s.toList == [42]) = false := by rw [ba_toList_data]; exact hq
            rw [hq, Bool.false_or] at hmu
            clear hq
            cases b1 with
            | true =>
              clear hmu hcon
              go_wp2_with (go_at_call 38; refine (hpre _).mono ?_; rintro e w' ⟨rfl, rfl⟩)
              go_ret2
              exact ⟨rfl, hfin⟩
            | false =>
              rw [Bool.false_or] at hmu
              subst hmu
              go_wp2_with (first | (go_at_call 38; refine (hpre _).mono ?_; rintro e w' ⟨rfl, rfl⟩) | (go_at_call 39; refine (hcon _).mono ?_; rintro e w' ⟨rfl, rfl⟩))
              go_ret2
              exact ⟨rfl, hfin⟩
        | false =>
          rw [hm] at HA1 hmu
          rw [if_neg (by decide)] at HA1
          have hmm := hmu.symm
          clear hmu
          rw [Bool.or_eq_false_iff, Bool.or_eq_false_iff] at hmm
          obtain ⟨⟨hq, rfl⟩, rfl⟩ := hmm
          have hq' : (s.toList == [42]) = false := by rw [ba_toList_data]; exact hq
          clear hq
          by_cases hz : (ba acc).size + s.size + 2 ≤ 140737488355328
          · rw [if_pos hz] at HA1
            rw [ba_size] at hz
            have step : ∀ x : List UInt8, x = (lineOf s).data.toList → showFrom (ba (acc ++ x)) (l.drop (kk + 1)) = some (r1, r2) := by
              intro x hx
              rw [← ba_append, hx, ba_of]; exact HA1
            clear HA1
            have wr_ : ∀ (x : ByteArray) (W : World), x.size ≤ s.size + 2 → Lib.IsBuilder 50 5 w1.heap.size w1.heap.size (Lib.byteCells acc) W → w1.heap.size ≤ W.heap.size → Calls Tryd.prog 40 #[.pointer (some ⟨w1.heap.size, 0, none⟩), .string x] W fun e w' => e = .returned (.tuple #[.int .i64 x.size, .nilIface]) ∧ (Lib.IsBuilder 50 5 w1.heap.size w1.heap.size (Lib.byteCells (acc ++ x.data.toList)) w' ∧ Below w1.heap.size W w') := by
              intro x W hx hi hw
              have := write_calls w1.heap.size w1.heap.size (Lib.byteCells acc) x W hi (by rw [Lib.byteCells_length]; omega) hw
              rw [Lib.strCells_eq, ← Lib.byteCells_append] at this
              exact this
            have WR := hid wr_
            clear wr_
            cases he0 : (s.data.toList == []) with
            | true =>
              have hn : s.data.toList = [] := by simpa using he0
              have hq2 : (s.toList == []) = true := by rw [ba_toList_data]; exact he0
              have hq3 : s.toList.isEmpty = true := by rw [ba_toList_data, hn]; rfl
              have HS := Aside0.mk (step [42, 10] (by unfold lineOf; rw [if_pos hn]; rfl))
              clear step he0 hn
              go_wp2_with (first | (go_at_call 38; refine (hpre _).mono ?_; rintro e w' ⟨rfl, rfl⟩) | (go_at_call 39; refine (hcon _).mono ?_; rintro e w' ⟨rfl, rfl⟩) | (go_at_call 40; refine (WR.out _ _ ?side1 HI.out hbw).mono ?_; (case side1 => (show 2 ≤ s.size + 2); omega); rintro e w' ⟨rfl, hi, hbb⟩; have HI2 := Aside0.mk hi; have HB2 := Aside0.mk (HB.out.trans hbb); clear hi hbb))
              go_roundg (l.length - (kk + 1))
              case measure => omega
              case rel => exact ⟨kk + 1, acc ++ [42, 10], by omega, by omega, by go_num, HI2, HB2, HS⟩
            | false =>
              have hn : s.data.toList ≠ [] := by simpa using he0
              have hq2 : (s.toList == []) = false := by rw [ba_toList_data]; exact he0
              have hq3 : s.toList.isEmpty = false := by rw [ba_toList_data]; exact List.isEmpty_eq_false_iff.2 hn
              have hz2 : (9223372036854775807 < s.size + 1) = False := eq_false (by omega)
              have hz3 : s.size + 1 ≤ s.size + 2 := by omega
              have HS := Aside0.mk (step (s ++ ⟨#[10]⟩).data.toList (by unfold lineOf; rw [if_neg hn]))
              clear step he0 hn
              go_wp2_with (first | (go_at_call 38; refine (hpre _).mono ?_; rintro e w' ⟨rfl, rfl⟩) | (go_at_call 39; refine (hcon _).mono ?_; rintro e w' ⟨rfl, rfl⟩) | (go_at_call 40; refine (WR.out _ _ ?side1 HI.out hbw).mono ?_; (case side1 => rw [ByteArray.size_append]; exact hz3); rintro e w' ⟨rfl, hi, hbb⟩; have HI2 := Aside0.mk hi; have HB2 := Aside0.mk (HB.out.trans hbb); clear hi hbb))
              go_roundg (l.length - (kk + 1))
              case measure => omega
              case rel => exact ⟨kk + 1, acc ++ (s ++ ⟨#[10]⟩).data.toList, by omega, by omega, by go_num, HI2, HB2, HS⟩
          · rw [if_neg hz] at HA1; cases HA1
      · have hltz : ¬ (kk : Int) < (l.length : Int) := by omega
        have hA := HA.out
        clear HA
        rw [List.drop_of_length_le (by omega), showFrom] at hA
        simp only [Option.some.injEq, Prod.mk.injEq] at hA
        obtain ⟨rfl, rfl⟩ := hA
        have hbw := HB.out.size
        have hstr := hid (Tryd.Builder_String_any w1.heap.size w1.heap.size acc wr HI.out hbw)
        clear HI
        go_wp2_with (go_at_call 41; refine hstr.out.mono ?_; rintro e w' ⟨rfl, hbb⟩)
        go_ret2
        exact ⟨rfl, hb.trans ((HB.out.trans hbb).mono hb.size)⟩
  · rw [if_neg he] at h
    simp only [Option.some.injEq, Prod.mk.injEq] at h
    obtain ⟨rfl, rfl⟩ := h
    have heb : (e0 != 0) = true := bne_iff_ne.2 he
    have heb' : (e0 == 0) = false := beq_eq_false_iff_ne.2 he
    go_enter Tryd.func20, Tryd.ntmps20
    go_wp2_with (go_at_call 17; refine hcall.out.mono ?_; rintro e w1 ⟨v, rfl, hR, hb⟩)
    go_ret2
    exact ⟨rfl, hb⟩
end Go.Proofs.YtinndapmljnifaaDoor.P
