/- The machine side of cone.Parse, by hand. -/
import Derived.Test.YtinndapmljnifaaDoorGivenD
import Derived.Test.YtinndapmljnifaaDoorSplit
namespace Go.Proofs.YtinndapmljnifaaDoor.P
open Go.RowKit Go.Lib Go.Proofs.YtinndapmljnifaaDoor.Q
open Go.Proofs.YtinndapmljnifaaDoorW.PrintWords Go.Proofs.YtinndapmljnifaaDoorW.PrintLast Go.Proofs.YtinndapmljnifaaDoorW.PrintMore
def parseFrom (k : Nat) : Nat → List ByteArray → List ByteArray → Option (List ByteArray × Int × Int)
  | _, acc, [] => (cone_Of.f k acc).bind fun t => some (t.1, 0, t.2)
  | i, acc, s :: r => if skipped s = true then parseFrom k (i + 1) acc r else if acc.length < 8796093022208 then (if (s.data.toList == [42]) = true then parseFrom k (i + 1) (acc ++ [⟨#[]⟩]) r else (cone_isPath.f k s).bind fun b => if b = true then parseFrom k (i + 1) (acc ++ [s]) r else some ([], ((i + 1 : Nat) : Int), 180)) else none
theorem parseFrom_mono (k : Nat) : ∀ (l : List ByteArray) (i : Nat) (acc : List ByteArray), LeO (parseFrom k i acc l) (parseFrom (k + 1) i acc l) := by
  intro l
  induction l with
  | nil =>
    intro i acc
    unfold parseFrom
    exact LeO.bind (cone_Of.mono _ _) (fun _ => LeO.refl _)
  | cons s r ih =>
    intro i acc
    unfold parseFrom
    exact LeO.ite (ih _ _) (LeO.ite (LeO.ite (ih _ _) (LeO.bind (cone_isPath.mono _ _) (fun _ => LeO.ite (ih _ _) (LeO.refl _)))) (LeO.refl _))
def cone_Parse.f (k : Nat) (a0 : ByteArray) : Option (List ByteArray × Int × Int) := (strings_Split.f a0 ⟨#[10]⟩).bind fun ls => parseFrom k 0 [] ls
theorem cone_Parse.mono : ∀ a0 k, LeO (cone_Parse.f k a0) (cone_Parse.f (k + 1) a0) := by
  intro a0 k
  unfold cone_Parse.f
  exact LeO.bind (LeO.refl _) (fun _ => parseFrom_mono _ _ _ _)
set_option maxHeartbeats 4000000 in
set_option maxRecDepth 100000 in
theorem cone_Parse.calls (k : Nat) (a0 : ByteArray) (r1 : List ByteArray) (r2 r3 : Int) (w : World) (h : cone_Parse.f k a0 = some (r1, r2, r3)) :
    Calls Tryd.prog 22 #[.string a0] w fun e w' => ∃ v0_ : Value, e = .returned (.tuple #[v0_, .int .i64 r2, .int .i64 r3]) ∧ Kd.R Kd.string 9 w' w.heap.size (fun _ => True) v0_ r1 ∧ Below w.heap.size w w' := by
  have e42 : ∀ args w, (callFunc 42 args).run Tryd.prog w = .ok (.enter 42 args) w := enters_of Tryd.func42 (by kernel_rfl) rfl
  unfold cone_Parse.f at h
  obtain ⟨ls, hs, h⟩ := Option.bind_eq_some_iff.1 h
  have HH := hid h
  have hsp := hid (fun W => strings_Split.calls a0 ⟨#[10]⟩ ls W hs)
  clear h hs
  go_enter Tryd.func22, Tryd.ntmps22
  go_wp2_with (go_at_call 43; refine (hsp.out _).mono ?_; rintro e w1 ⟨v, rfl, hR, hb⟩; obtain ⟨A, c, hv⟩ := Kd.R_slice hR; subst hv)
  have hRR := hid (Kd.R_reads' hR)
  have hlen : ls.length ≤ 9223372036854775807 := hRR.out.2.2.2.1
  have hbase := hid (Kd.R_base hR)
  have hwa : (w.alloc (.cells #[.slice none 0 0] 22)).heap.size = w.heap.size + 1 := by simp
  have hw1 : w.heap.size + 1 ≤ w1.heap.size := by have := hb.size; rw [hwa] at this; exact this
  have H0 : Held w.heap.size w.heap.size [] w1 (.slice none 0 0) := ⟨(hb.block _ (by rw [hwa]; omega)).trans (blk_new w _), Kd.R_nil _ _ _ _ _, Nat.le_refl _⟩
  have HB0 : Below w.heap.size w w1 := ((Below.refl _ w).alloc (Nat.le_refl _) _).trans (hb.mono (by rw [hwa]; omega))
  have HD := Aside0.mk H0
  have HB := Aside0.mk HB0
  clear H0 HB0 hR hb hsp
  go_loopg [15] ls.length (fun gg s15 wr => ∃ (kk : Nat) (acc : List ByteArray) (v : Value), kk ≤ ls.length ∧ ls.length - kk ≤ gg ∧ s15 = .int .i64 kk ∧ Aside0 (Held w.heap.size w.heap.size acc wr v) ∧ Aside0 (Below w.heap.size w wr) ∧ Aside0 (w1.heap.size ≤ wr.heap.size ∧ (∀ j, j < w1.heap.size → j ≠ w.heap.size → wr.heap[j]? = w1.heap[j]?) ∧ ∀ n, v.ownBlock = some n → w1.heap.size ≤ n) ∧ Aside0 (parseFrom k kk acc (ls.drop kk) = some (r1, r2, r3)))
  case atStart => exact ⟨0, [], _, Nat.zero_le _, by omega, rfl, HD, HB, ⟨Nat.le_refl _, fun _ _ _ => rfl, fun n hn => by simp [Value.ownBlock] at hn⟩, ⟨HH.out⟩⟩
  case round =>
    clear HD HB HH
    obtain ⟨kk, acc, v, hkk, hg, rfl, HD, HB, HF, HA⟩ := hrel
    by_cases hlt : kk < ls.length
    · have hltz : (kk : Int) < (ls.length : Int) := by omega
      obtain ⟨bq, o, hA0, hbq, hcells⟩ := lies_C hRR.out.2.2 (by omega)
      subst hA0
      have hbne : bq ≠ w.heap.size := by
        have := hbase.out bq (by simp [Value.ownBlock])
        rw [hwa] at this; omega
      have hcell : wr.cell? ⟨bq, o + kk, none⟩ = some (.string (ls.getD kk ByteArray.empty)) := by
        rw [← hcells kk hlt]
        simp only [World.cell?, HF.out.2.1 bq hbq hbne]
      have hd : ls.drop kk = ls.getD kk ByteArray.empty :: ls.drop (kk + 1) := by
        rw [List.drop_eq_getElem_cons hlt, List.getD_eq_getElem?_getD, List.getElem?_eq_getElem hlt]; rfl
      have HA1 := HA.out
      clear HA hcells
      rw [hd, parseFrom] at HA1
      clear hd
      generalize ls.getD kk ByteArray.empty = s at hcell HA1
      have hBw : w.heap.size ≤ wr.heap.size := HB.out.size
      have frame0 : ∀ (v' : Value) (W : World), Leaves w.heap.size v v' wr W → wr.heap.size ≤ W.heap.size → (w1.heap.size ≤ W.heap.size ∧ (∀ j, j < w1.heap.size → j ≠ w.heap.size → W.heap[j]? = w1.heap[j]?) ∧ ∀ n, v'.ownBlock = some n → w1.heap.size ≤ n) := by
        intro v' W hL hS
        have hsz : w1.heap.size ≤ wr.heap.size := HF.out.1
        refine ⟨by omega, fun j hj hjb => ?_, fun n hn => ?_⟩
        · refine (hL.block j (by omega) hjb (fun e => ?_)).trans (HF.out.2.1 j hj hjb)
          have := HF.out.2.2 j e.symm
          omega
        · rcases hL.row with e | ⟨m, e, hm⟩
          · exact HF.out.2.2 n (e ▸ hn)
          · rw [e] at hn
            injection hn with hn
            omega
      have frame := hid frame0
      clear frame0
      cases hm : skipped s with
      | true =>
        rw [hm, if_pos rfl] at HA1
        have HA2 := Aside0.mk HA1
        clear HA1
        have hsay := hid (say_skip w.heap.size s wr hm)
        clear hm
        go_wp2_with (go_at_fn 42; refine hsay.out.mono ?_; rintro e w' ⟨rfl, rfl⟩)
        go_roundg (ls.length - (kk + 1))
        case measure => omega
        case rel => exact ⟨kk + 1, acc, v, by omega, by omega, by go_num, HD, HB, HF, HA2⟩
      | false =>
        rw [hm, if_neg (by decide)] at HA1
        by_cases hl : acc.length < 8796093022208
        · rw [if_pos hl] at HA1
          cases h42 : (s.data.toList == [42]) with
          | true =>
            rw [h42, if_pos rfl] at HA1
            have HA2 := Aside0.mk HA1
            clear HA1
            have hs42 : s = ⟨#[42]⟩ := by
              rw [← ba_of s, beq_iff_eq.1 h42]; rfl
            subst hs42
            have hsay := hid (say_star w.heap.size w.heap.size acc wr v HD.out hl hBw)
            clear hm hl h42
            go_wp2_with (go_at_fn 42; refine hsay.out.mono ?_; rintro e w' ⟨rfl, ⟨v', hh', hlv⟩, hbb⟩; have HD2 := Aside0.mk hh'; have HF2 := Aside0.mk (frame.out v' w' hlv hbb.size); have HB2 := Aside0.mk (HB.out.trans hbb); clear hh' hlv hbb)
            go_roundg (ls.length - (kk + 1))
            case measure => omega
            case rel => exact ⟨kk + 1, acc ++ [⟨#[]⟩], v', by omega, by omega, by go_num, HD2, HB2, HF2, HA2⟩
          | false =>
            rw [h42, if_neg (by decide)] at HA1
            obtain ⟨b, hp, HA1⟩ := Option.bind_eq_some_iff.1 HA1
            have hsay := hid (say_dir k w.heap.size w.heap.size acc wr v s b HD.out hl hBw hm h42 hp)
            clear hm hl h42 hp
            cases b with
            | true =>
              rw [if_pos rfl] at HA1
              have HA2 := Aside0.mk HA1
              clear HA1
              go_wp2_with (go_at_fn 42; refine hsay.out.mono ?_; rintro e w' ⟨rfl, ⟨v', hh', hlv⟩, hbb⟩; have HD2 := Aside0.mk hh'; have HF2 := Aside0.mk (frame.out v' w' hlv hbb.size); have HB2 := Aside0.mk (HB.out.trans hbb); clear hh' hlv hbb)
              go_roundg (ls.length - (kk + 1))
              case measure => omega
              case rel => exact ⟨kk + 1, acc ++ [s], v', by omega, by omega, by go_num, HD2, HB2, HF2, HA2⟩
            | false =>
              rw [if_neg (by decide)] at HA1
              simp only [Option.some.injEq, Prod.mk.injEq] at HA1
              obtain ⟨rfl, rfl, rfl⟩ := HA1
              go_wp2_with (go_at_fn 42; refine hsay.out.mono ?_; rintro e w' ⟨rfl, _, hbb⟩; have HB2 := Aside0.mk (HB.out.trans hbb); clear hbb)
              go_ret3
              exact ⟨_, (by go_num), Kd.R_nil _ _ _ _ _, HB2.out⟩
        · rw [if_neg hl] at HA1; cases HA1
    · have hltz : ¬ (kk : Int) < (ls.length : Int) := by omega
      have HA1 := HA.out
      clear HA
      rw [List.drop_of_length_le (by omega), parseFrom] at HA1
      obtain ⟨⟨t1, t2⟩, hof, HA1⟩ := Option.bind_eq_some_iff.1 HA1
      simp only [Option.some.injEq, Prod.mk.injEq] at HA1
      obtain ⟨rfl, rfl, rfl⟩ := HA1
      obtain ⟨A2, c2, hv⟩ := Kd.R_slice HD.out.own
      subst hv
      have hcell := HD.out.at_
      have hBw : w.heap.size ≤ wr.heap.size := HB.out.size
      have hcall := hid (cone_Of.calls k A2 c2 acc t1 t2 wr (Kd.R_reads' HD.out.own).2.2 (Kd.R_reads' HD.out.own).2.1 hof)
      clear hof
      go_wp2_with (go_at_call 17; refine hcall.out.mono ?_; rintro e w' ⟨v0, rfl, hR2, hb2⟩)
      go_ret3
      exact ⟨v0, rfl, Kd.R_lower hR2 hBw, HB.out.trans (hb2.mono hBw)⟩
end Go.Proofs.YtinndapmljnifaaDoor.P
