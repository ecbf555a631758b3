/- pick, by hand. What WalForms needs beside its walk. WalForms walked. -/
import Derived.Test.YthlmbgaipbjbhaaDoorShow
section
namespace Go.Proofs.YthlmbgaipbjbhaaDoor.L
open Go.RowKit Go.Lib Go.Maps Go.Proofs.YthlmbgaipbjbhaaDoor.P
open Go.Proofs.YthlmbgaipbjbhaaDoorW.PrintWords Go.Proofs.YthlmbgaipbjbhaaDoorW.PrintLast Go.Proofs.YthlmbgaipbjbhaaDoorW.PrintMore
theorem wf_bd {x : Int} (h : (Lit.int .i64 x).wf = true) : -9223372036854775808 ≤ x ∧ x ≤ 9223372036854775807 := by
  simp [Lit.wf, IntKind.min, IntKind.max, IntKind.signed, IntKind.bits] at h
  omega
def pickI (c n : Int) : Int := (if c < 0 then -(c + 1) else c) % n
theorem pick_bd (c n : Int) (hn : 0 < n) : 0 ≤ pickI c n ∧ pickI c n < n := ⟨Int.emod_nonneg _ (by omega), Int.emod_lt_of_pos _ hn⟩
set_option maxHeartbeats 1000000 in
theorem pick_calls (c n : Int) (hc : (Lit.int .i64 c).wf = true) (hn : 0 < n) (w : World) :
    Calls Tryd.prog 12 #[.int .i64 c, .int .i64 n] w fun e w' => e = .returned (.int .i64 (pickI c n)) ∧ w' = w := by
  obtain ⟨h1, h2⟩ := wf_bd hc
  clear hc
  by_cases h : c < 0
  · obtain ⟨r, hr⟩ : ∃ r, r = pickI c n := ⟨_, rfl⟩
    rw [← hr]
    have hp : pickI c n = (-(c + 1)) % n := by unfold pickI; rw [if_pos h]
    have hz : wrap64 (-(c + 1)) = -(c + 1) := by unfold wrap64; omega
    have HR := hid (hr.trans hp)
    clear hr hp
    go_enter Tryd.func12, Tryd.ntmps12
    go_wp2
    go_ret
    refine ⟨congrArg (fun z => Ending.returned (.int .i64 z)) ?_, rfl⟩
    show -((c + 1).tmod n) = r
    rw [HR.out, ← Int.neg_tmod, Int.tmod_eq_emod_of_nonneg (by omega)]
  · obtain ⟨r, hr⟩ : ∃ r, r = pickI c n := ⟨_, rfl⟩
    rw [← hr]
    have hp : pickI c n = c % n := by unfold pickI; rw [if_neg h]
    have HR := hid (hr.trans hp)
    have h0 : 0 ≤ c := by omega
    clear hr hp
    go_enter Tryd.func12, Tryd.ntmps12
    go_wp2
    go_ret
    refine ⟨congrArg (fun z => Ending.returned (.int .i64 z)) ?_, rfl⟩
    show c % n = r
    rw [HR.out]
end Go.Proofs.YthlmbgaipbjbhaaDoor.L
end
section
namespace Go.Proofs.YthlmbgaipbjbhaaDoor.L
open Go.RowKit Go.Lib Go.Maps Go.Proofs.YthlmbgaipbjbhaaDoor.P
open Go.Proofs.YthlmbgaipbjbhaaDoorW.PrintWords Go.Proofs.YthlmbgaipbjbhaaDoorW.PrintLast Go.Proofs.YthlmbgaipbjbhaaDoorW.PrintMore
set_option linter.unusedVariables false
abbrev nLog : ByteArray := ⟨#[108, 111, 103]⟩
abbrev nLog2 : ByteArray := ⟨#[108, 111, 103, 126]⟩
theorem namedLog : Named nLog nLog2 := ⟨by kernel_rfl, by kernel_rfl, by kernel_rfl, by decide⟩
theorem wNameLog : wName nLog = true := by kernel_rfl
theorem forms_open {w0 w : World} {N B : Nat} {D : Dk} (dw : Dw w0 w N B D) (hf : ∀ s, Firm D s none) (name : ByteArray) (hn : name.size < 4611686018427387904) :
    Calls Tryd.prog 10 #[P D.d, .string name] w fun e w' => ∃ p, e = .returned (.tuple #[.pointer p, .slice none 0 0, .int .i64 (if wName name then 0 else 50)]) ∧ Dw w0 w' N B D := by
  cases h : wName name with
  | true =>
    refine (open_new dw h (hf name)).mono ?_
    rintro e w' ⟨k, rfl, hb, dw', hk, lw⟩
    exact ⟨_, rfl, dw'⟩
  | false =>
    refine (open_form dw.at_ hn h).mono ?_
    rintro e w' ⟨rfl, hb⟩
    exact ⟨_, rfl, dw.new (Fr.of_below hb [])⟩
def goodC (b : Int) : Bool := decide (33 ≤ b) && decide (b ≤ 126)
abbrev tFirst : ByteArray := ⟨#[102, 105, 114, 115, 116]⟩
theorem gokFirst : GOk [tFirst] := ⟨by decide, by decide⟩
theorem lenFirst : (enc [tFirst]).length ≤ 27 := gokFirst.enc
theorem forms_text (W : World) (z : Nat) (hz : z ≤ 281474976710656) : (convert 33 9 (.slice (some ⟨W.heap.size, 0, none⟩) z z)).run Tryd.prog (W.alloc (.cells (madeCells #[.int .u8 0] z) 5)) = .ok (.string (strOfNums (List.replicate z (0 : Int)))) (W.alloc (.cells (madeCells #[.int .u8 0] z) 5)) := by
  exact own_string (e := 5) (by kernel_rfl) (by kernel_rfl) (by kernel_rfl) (own_made' W 0 5 .u8 z (Nat.zero_le _) (by omega))
abbrev litO (t : ByteArray) (w : World) : World := (w.alloc (.cells #[.string t] 9)).alloc (.cells #[.slice (some ⟨w.heap.size, 0, none⟩) 1 1] 34)
theorem litO_below (t : ByteArray) (w : World) : Below w.heap.size w (litO t w) :=
  (al_below w _).trans ((al_below _ _).mono (by simp only [al_size]; omega))
theorem same_one (t : ByteArray) (w : World) (A : Option Addr) (c : Nat) {base : Nat} {ok : Nat → Prop} (h : Kd.R kG 34 w base ok (.slice A 1 c) [[t]]) :
    Calls Tryd.prog 14 #[.slice A 1 c, .slice (some ⟨w.heap.size + 1, 0, none⟩) 1 1] (litO t w) fun e w' => e = .returned (.bool true) ∧ Drawn0 (litO t w) w' := by
  obtain ⟨K, hK⟩ := (same_ev [[t]] [[t]] (by simp) (by simp)).rounds
  obtain ⟨_, h1, h2⟩ := R_cS (R_alloc1 (R_alloc1 h (.cells #[.string t] 9)) (.cells #[.slice (some ⟨w.heap.size, 0, none⟩) 1 1] 34))
  have hg0 : (litO t w).heap[w.heap.size]? = some (.cells #[.string t] 9) := by
    unfold litO
    rw [al_keep _ (by simp only [al_size]; omega), al_get]
  have hg1 : (litO t w).heap[w.heap.size + 1]? = some (.cells #[.slice (some ⟨w.heap.size, 0, none⟩) 1 1] 34) := by
    unfold litO
    have := al_get (w.alloc (.cells #[.string t] 9)) (.cells #[.slice (some ⟨w.heap.size, 0, none⟩) 1 1] 34)
    simp only [al_size] at this
    exact this
  have hC : Kd.C kG (litO t w) (some ⟨w.heap.size + 1, 0, none⟩) 1 [[t]] :=
    C_rows (gs := [[t]]) [.slice (some ⟨w.heap.size, 0, none⟩) 1 1] hg1 rfl (by simp) (fun i h1 h2 => by
      match i, h1, h2 with
      | 0, _, _ => exact ⟨_, _, rfl, Nat.le_refl _, C_lit [t] hg0 (by simp)⟩
      | i + 1, h1, _ => exact absurd h1 (by simp))
  exact tussocklaw05_same.calls K A c [[t]] _ 1 [[t]] true _ h2 h1 hC (by simp) (hK.trans (by simp))
abbrev litP (t : ByteArray) (v : Value) (w : World) : World := (w.alloc (.cells #[.string t] 9)).alloc (.cells #[.slice (some ⟨w.heap.size, 0, none⟩) 1 1, v] 34)
theorem litP_below (t : ByteArray) (v : Value) (w : World) : Below w.heap.size w (litP t v w) :=
  (al_below w _).trans ((al_below _ _).mono (by simp only [al_size]; omega))
theorem same_two (t : ByteArray) (w : World) (A : Option Addr) (c : Nat) (A2 : Option Addr) (c2 : Nat) (l : List ByteArray) (hl : l.length < 4294967296) {base base2 : Nat} {ok ok2 : Nat → Prop} (h : Kd.R kG 34 w base ok (.slice A 2 c) [[t], l]) (hl2 : Kd.R Kd.string 9 w base2 ok2 (.slice A2 l.length c2) l) :
    Calls Tryd.prog 14 #[.slice A 2 c, .slice (some ⟨w.heap.size + 1, 0, none⟩) 2 2] (litP t (.slice A2 l.length c2) w) fun e w' => e = .returned (.bool true) ∧ Drawn0 (litP t (.slice A2 l.length c2) w) w' := by
  obtain ⟨K, hK⟩ := (same_ev [[t], l] [[t], l] (by simp) (by simpa using hl)).rounds
  obtain ⟨_, h1, h2⟩ := R_cS (R_alloc1 (R_alloc1 h (.cells #[.string t] 9)) (.cells #[.slice (some ⟨w.heap.size, 0, none⟩) 1 1, .slice A2 l.length c2] 34))
  obtain ⟨A3, c3, e3, h3, h4⟩ := Kd.R_reads (Kd.R_alloc (Kd.R_alloc hl2 (.cells #[.string t] 9)) (.cells #[.slice (some ⟨w.heap.size, 0, none⟩) 1 1, .slice A2 l.length c2] 34))
  cases e3
  have hg0 : (litP t (.slice A2 l.length c2) w).heap[w.heap.size]? = some (.cells #[.string t] 9) := by
    unfold litP
    rw [al_keep _ (by simp only [al_size]; omega), al_get]
  have hg1 : (litP t (.slice A2 l.length c2) w).heap[w.heap.size + 1]? = some (.cells #[.slice (some ⟨w.heap.size, 0, none⟩) 1 1, .slice A2 l.length c2] 34) := by
    unfold litP
    have := al_get (w.alloc (.cells #[.string t] 9)) (.cells #[.slice (some ⟨w.heap.size, 0, none⟩) 1 1, .slice A2 l.length c2] 34)
    simp only [al_size] at this
    exact this
  have hC : Kd.C kG (litP t (.slice A2 l.length c2) w) (some ⟨w.heap.size + 1, 0, none⟩) 2 [[t], l] :=
    C_rows (gs := [[t], l]) [.slice (some ⟨w.heap.size, 0, none⟩) 1 1, .slice A2 l.length c2] hg1 rfl (by simp) (fun i h1 h2 => by
      match i, h1, h2 with
      | 0, _, _ => exact ⟨_, _, rfl, Nat.le_refl _, C_lit [t] hg0 (by simp)⟩
      | 1, _, _ => exact ⟨_, _, rfl, h3, h4⟩
      | i + 2, h1, _ => exact absurd h1 (by simp))
  exact tussocklaw05_same.calls K A c [[t], l] _ 2 [[t], l] true _ h2 h1 hC (by simp) (hK.trans (by simp))
theorem refused_w {w0 w : World} {N B k : Nat} {D : Dk} {name : ByteArray} {G : List (List ByteArray)} {g : List ByteArray} (dw : Dw w0 w N B D) (lw : Lw w0 w D k name G) (A : Option Addr) (c : Nat) (hg : ¬ GOk g) (hC : Kd.C Kd.string w A g.length g) (hl : g.length < 4611686018427387904) (hs : sizes g < 4611686018427387904) :
    Calls Tryd.prog 11 #[P k, .slice A g.length c] w fun e w' => e = .returned (.int .i64 50) ∧ w' = w := by
  obtain ⟨s, r, t, h1, h2⟩ := lw.lw
  exact refused_calls (LG.start dw.at_ h1 lw.off.1 lw.off.2) A c hg hC hl hs
theorem sizes_rep (n : Nat) (t : ByteArray) : sizes (List.replicate n t) = n * t.size := by
  unfold sizes
  rw [List.map_replicate]
  induction n with
  | zero => simp
  | succ m ih => rw [List.replicate_succ, List.sum_cons, ih, Nat.add_mul]; omega
theorem forms_append {w0 w : World} {N base k : Nat} {D : Dk} (dw : Dw w0 w N 4194304 D) (lw : Lw w0 w D k nLog [[tFirst]]) (hL : Laid w0) (hN : N + 40 < 1048576) (calm : Calm 12582912 D) (o : Only (fun x => x ∈ [nLog, nLog2]) D) (n z : Nat) (text : ByteArray) (hts : text.size = z) (hn : n < 9000) (hz : z < 400) (A : Option Addr) (c : Nat)
    (hr : Kd.R Kd.string 9 w base (fun _ => True) (.slice A n c) (List.replicate n text)) (hb : ∀ j ∈ k :: D.own, j < base) :
    Calls Tryd.prog 11 #[P k, .slice A n c] w fun e w' => ∃ (cc : Int) (D' : Dk) (G : List (List ByteArray)), e = .returned (.int .i64 cc) ∧ Dw w0 w' (N + 16) 4194304 D' ∧ Lw w0 w' D' k nLog G ∧ D'.d = D.d ∧ Calm 12582912 D' ∧ (∀ x ∈ G, GOk x) ∧ G.length < 1048576 ∧
      Kd.R Kd.string 9 w' base (fun j => j < w'.heap.size) (.slice A n c) (List.replicate n text) ∧
      ((cc = 0 ∧ (n ≤ 8192 ∧ n * z ≤ 2097152) ∧ G = [[tFirst], List.replicate n text]) ∨ (cc = 50 ∧ ¬ (n ≤ 8192 ∧ n * z ≤ 2097152) ∧ G = [[tFirst]])) := by
  have hgl : (List.replicate n text).length = n := List.length_replicate
  have hgs : sizes (List.replicate n text) = n * z := by rw [sizes_rep, hts]
  have hnz : n * z ≤ 9000 * 400 := Nat.mul_le_mul (by omega) (by omega)
  have hgk : GOk (List.replicate n text) ↔ (n ≤ 8192 ∧ n * z ≤ 2097152) := by unfold GOk; rw [hgl, hgs]
  have hown : ∀ {W : World}, Fr (k :: D.own) w W → Kd.R Kd.string 9 W base (fun j => j < W.heap.size) (.slice A n c) (List.replicate n text) := fun {W} f => by
    have := Kd.R_step (Kd.R_mono (Kd.R_bound hr) (fun j hj => (⟨hj.2.1, hj.2.2.1⟩ : base ≤ j ∧ j < w.heap.size))) (fun j hj hlt => f.keep j hlt (fun hm => by have := hb j hm; have := hj.1; omega))
    exact Kd.R_mono this (fun j hj => Nat.lt_of_lt_of_le hj.2 f.size)
  have hC : ∀ W, Fr (k :: D.own) w W → Kd.C Kd.string W A (List.replicate n text).length (List.replicate n text) := fun W f => by
    obtain ⟨A3, c3, e3, h3, h4⟩ := Kd.R_reads (hown f)
    obtain ⟨rfl, _, rfl⟩ := Value.slice.inj e3
    exact h4
  have hsl : ∀ (Q : Ending → World → Prop), Calls Tryd.prog 11 #[P k, .slice A (List.replicate n text).length c] w Q → Calls Tryd.prog 11 #[P k, .slice A n c] w Q := fun Q h => by rw [hgl] at h; exact h
  by_cases hok : n ≤ 8192 ∧ n * z ≤ 2097152
  · have hg := hgk.2 hok
    have hle := hg.enc
    rw [hgl, hgs] at hle
    refine hsl _ ((append_w (R := 12582912) dw lw hL (by omega) (by omega) namedLog [nLog, nLog2] o (by simp) (by simp) A c hg hC (by have := lenFirst; rw [encs_one]; omega) (by simp)).mono ?_)
    intro e w' h
    obtain ⟨D', rfl, dw', d', f', _, lw'⟩ := h.calm calm
    refine ⟨0, D', _, rfl, dw', lw', d'.d, calm.did d', fun x hx => ?_, by simp, hown f', .inl ⟨rfl, hok, rfl⟩⟩
    simp only [List.cons_append, List.nil_append, List.mem_cons, List.not_mem_nil, or_false] at hx
    rcases hx with rfl | rfl
    · exact gokFirst
    · exact hg
  · have hg := fun h => hok (hgk.1 h)
    refine hsl _ ((refused_w dw lw A c hg (hC w (Fr.refl _ _)) (by rw [hgl]; omega) (by rw [hgs]; omega)).mono ?_)
    rintro e w' ⟨rfl, rfl⟩
    exact ⟨50, D, _, rfl, dw.mono (by omega), lw, rfl, calm, fun x hx => by rw [List.mem_singleton.1 hx]; exact gokFirst, by simp, hown (Fr.refl _ _), .inr ⟨rfl, hok, rfl⟩⟩
theorem good_step (s : ByteArray) (k : Nat) (h : k < s.size) : ((bytesOf s).take (k + 1)).all goodC = (((bytesOf s).take k).all goodC && goodC ((s[k]'h).toNat : Int)) := by
  have hl : k < (bytesOf s).length := by rw [bytesOf_length]; exact h
  have hx : (bytesOf s)[k]'hl = ((s[k]'h).toNat : Int) := by
    show (s.data.toList.map fun b => (b.toNat : Int))[k]'(by rw [List.length_map, data_length]; exact h) = _
    rw [List.getElem_map]
    rfl
  rw [List.take_succ_eq_append_getElem hl, List.all_append, hx]
  simp
theorem wName_good (s : ByteArray) : ((decide (1 ≤ s.size) && decide (s.size ≤ 70)) && (bytesOf s).all goodC) = wName s := by
  unfold wName
  rw [Bool.and_comm]
  congr 1
  rw [List.all_eq_not_any_not]
  congr 1
  refine congrArg (fun f => (bytesOf s).any f) (funext fun b => ?_)
  unfold goodC badC
  by_cases h1 : b < 33 <;> by_cases h2 : 126 < b <;> simp [h1, h2] <;> omega
end Go.Proofs.YthlmbgaipbjbhaaDoor.L
end
section
namespace Go.Proofs.YthlmbgaipbjbhaaDoor.L
open Go.RowKit Go.Lib Go.Maps Go.Proofs.YthlmbgaipbjbhaaDoor.P
open Go.Proofs.YthlmbgaipbjbhaaDoorW.PrintWords Go.Proofs.YthlmbgaipbjbhaaDoorW.PrintLast Go.Proofs.YthlmbgaipbjbhaaDoorW.PrintMore
set_option linter.unusedVariables false
set_option maxHeartbeats 32000000 in
set_option maxRecDepth 100000 in
theorem forms_calls (w : World) (hL : Laid w) (name : ByteArray) (hn : name.size < 4611686018427387904) (many long : Int) (hm : (Lit.int .i64 many).wf = true) (hl : (Lit.int .i64 long).wf = true) : Calls Tryd.prog 3 #[.string name, .int .i64 many, .int .i64 long] w fun e w' => e = .returned (.bool true) ∧ Below w.heap.size w w' := by
  have HL := hid hL
  have HM := hid hm
  have HLO := hid hl
  clear hL hm hl
  have HSN := hid hn
  clear hn
  go_enter Tryd.func3, Tryd.ntmps3
  go_upto_region 2 with (go_at_call 8; refine (shown_calls w HL.out).mono ?_; rintro e w1 ⟨rfl, hb1⟩; have HB1 := hid hb1; clear hb1)
  go_upto_region 5 with (go_at_call 9; refine (new_w w 16777216 (by omega) HB1.out 4194304).mono ?_; rintro e w2 ⟨D0, rfl, hb2, dw2, ho2, hf2, hn2, hc2⟩; have DW2 := hid dw2; have HF2 := hid hf2; have HN2 := hid (hn2 (fun x => x ∈ [nLog, nLog2])); have HC2 := hid (hc2 12582912 (by omega)); clear hb2 dw2 ho2 hf2 hn2 hc2)
  have HO := hid (forms_open DW2.out HF2.out name HSN.out)
  go_upto_region 6 with (go_at_call 10; refine HO.out.mono ?_; rintro e w3 ⟨p3, rfl, dw3⟩; have DW3 := hid dw3; clear dw3)
  obtain ⟨c3, hc3⟩ : ∃ c : Int, c = if wName name then 0 else 50 := ⟨_, rfl⟩
  rw [← hc3]
  have HC3 := hid hc3
  clear hc3 HO
  go_cut [13] (fun v13 wc => v13 = .bool (decide (1 ≤ name.size) && decide (name.size ≤ 70)) ∧ wc = w3)
  case first =>
    by_cases h1 : 1 ≤ name.size
    · have h1z : 1 ≤ (name.size : Int) := by omega
      by_cases h2 : name.size ≤ 70
      · have h2z : (name.size : Int) ≤ 70 := by omega
        go_wp2
        go_meet
        exact ⟨by rw [decide_eq_true h1, decide_eq_true h2]; rfl, rfl⟩
      · have h2z : ¬ (name.size : Int) ≤ 70 := by omega
        go_wp2
        go_meet
        exact ⟨by rw [decide_eq_false h2, Bool.and_false], rfl⟩
    · have h1z : ¬ 1 ≤ (name.size : Int) := by omega
      go_wp2
      go_meet
      exact ⟨by rw [decide_eq_false h1, Bool.false_and], rfl⟩
  case rest =>
    obtain ⟨rfl, rfl⟩ := hcut
    have HRR := hid (show ((decide (1 ≤ name.size) && decide (name.size ≤ 70)) && (bytesOf name).all goodC) = wName name from wName_good name)
    generalize (decide (1 ≤ name.size) && decide (name.size ≤ 70)) = r0 at *
    go_wp2
    go_loopg [13, 14] name.size (fun gg s13 s14 wr => ∃ kk : Nat, kk ≤ name.size ∧ name.size - kk ≤ gg ∧ s13 = .bool (r0 && ((bytesOf name).take kk).all goodC) ∧ s14 = .int .i64 kk ∧ Hid (wr = wc))
    case atStart => exact ⟨0, by omega, by omega, by simp, rfl, hid rfl⟩
    case round =>
      obtain ⟨kk, hkk, hg, rfl, rfl, HW⟩ := hrel
      obtain rfl := HW.out
      by_cases hlt : kk < name.size
      · have hlz : (kk : Int) < (name.size : Int) := by omega
        have hkz : wrap64 ((kk : Int) + 1) = ((kk + 1 : Nat) : Int) := by have := HSN.out; unfold wrap64; omega
        have HGO := hid (good_step name kk hlt)
        obtain ⟨rb, hrb⟩ : ∃ b : Bool, b = (r0 && ((bytesOf name).take kk).all goodC) := ⟨_, rfl⟩
        rw [← hrb]
        have HRB := hid hrb
        clear hrb
        cases rb with
        | false =>
          go_wp2
          go_roundg (name.size - (kk + 1))
          case measure => omega
          case rel => exact ⟨kk + 1, by omega, by omega, by rw [HGO.out, ← Bool.and_assoc, ← HRB.out]; rfl, rfl, hid rfl⟩
        | true =>
          by_cases hy : 33 ≤ ((name[kk]'hlt).toNat : Int)
          · have hyb := decide_eq_true hy
            go_wp2
            go_roundg (name.size - (kk + 1))
            case measure => omega
            case rel => exact ⟨kk + 1, by omega, by omega, by rw [HGO.out, ← Bool.and_assoc, ← HRB.out]; unfold goodC; rw [hyb]; rfl, rfl, hid rfl⟩
          · have hyb := decide_eq_false hy
            go_wp2
            go_roundg (name.size - (kk + 1))
            case measure => omega
            case rel => exact ⟨kk + 1, by omega, by omega, by rw [HGO.out, ← Bool.and_assoc, ← HRB.out]; unfold goodC; rw [hyb]; rfl, rfl, hid rfl⟩
      · have hnn : kk = name.size := by omega
        subst hnn
        have hR : (r0 && ((bytesOf name).take name.size).all goodC) = wName name := by rw [← HRR.out, List.take_of_length_le (by rw [bytesOf_length]; omega)]
        rw [hR]
        clear hR
        go_upto_region 11 with fail
        go_cut [12, 13, 86] (fun v12 v13 v86 wx => v86 = .bool false ∧ Hid (wx = wr))
        case first =>
          cases hwn : wName name with
          | true =>
            have h0 := HC3.out
            rw [hwn] at h0
            obtain rfl : c3 = 0 := h0
            clear HC3 hwn HRR
            go_wp2
            go_meet
            exact ⟨rfl, hid rfl⟩
          | false =>
            have h0 := HC3.out
            rw [hwn] at h0
            obtain rfl : c3 = 50 := h0
            clear HC3 hwn HRR
            go_wp2
            go_meet
            exact ⟨rfl, hid rfl⟩
        case rest =>
          obtain ⟨rfl, HWX⟩ := hcut
          have HWY := hid (HWX.out.symm)
          clear HWX HRR HC3
          obtain rfl := HWY.out
          clear HWY
          go_upto_region 14 with (go_at_call 10; refine (open_new DW3.out wNameLog (HF2.out _)).mono ?_; rintro e w4 ⟨k, rfl, hb4, dw4, hk, lw4⟩; have DW4 := hid dw4; have LW4 := hid lw4; clear hb4 dw4 hk lw4)
          go_upto_region 16 with (go_at_call 11; refine (append_w (DW4.out.new (Fr.alloc [] w4 (.cells #[.string tFirst] 9))) (LW4.out.new (Fr.alloc [] w4 (.cells #[.string tFirst] 9))) HL.out (by omega) (by omega) namedLog [nLog, nLog2] HN2.out (by simp) (by simp) _ 1 gokFirst (C_lit_after [tFirst] 9 (by decide) (lw_lt DW4.out LW4.out)) (by have := lenFirst; simp only [encs, List.map_nil, List.flatten_nil, List.length_nil]; omega) rfl).mono ?_; intro e w5 h5; obtain ⟨D5, rfl, dw5, d5, _, _, lw5⟩ := h5.calm HC2.out; have DW5 := hid dw5; have LW5 := hid (show Lw w w5 D5 k nLog [[tFirst]] from lw5); have HD5 := hid d5; clear h5 dw5 lw5 d5)
          have HN5 := hid (HD5.out.only (fun x => x ∈ [nLog, nLog2]) (fun x hx => by rcases hx with hx | hx <;> simp [hx]) HN2.out)
          have HC5 := hid (HC2.out.did HD5.out)
          have HPM := hid (fun W => pick_calls many 9000 HM.out (by omega) W)
          have HPL := hid (fun W => pick_calls long 400 HLO.out (by omega) W)
          have hbm := pick_bd many 9000 (by omega)
          have hbl := pick_bd long 400 (by omega)
          generalize pickI many 9000 = m at *
          generalize pickI long 400 = l at *
          obtain ⟨n, rfl⟩ : ∃ n : Nat, m = n := ⟨m.toNat, by omega⟩
          obtain ⟨z, rfl⟩ : ∃ z : Nat, l = z := ⟨l.toNat, by omega⟩
          have hn9 : n < 9000 := by omega
          have hz4 : z < 400 := by omega
          clear hbm hbl
          go_upto_region 17 with (go_at_call 12; refine (HPM.out _).mono ?_; rintro e w_ ⟨rfl, hww⟩; have hww2 := hww.symm; subst hww2)
          go_upto_region 18 with (go_at_call 12; refine (HPL.out _).mono ?_; rintro e w_ ⟨rfl, hww⟩; have hww2 := hww.symm; subst hww2)
          have km := print_make (P := Tryd.prog) 33 5 .u8 1 (by kernel_rfl) (by kernel_rfl) (by omega) z (by omega)
          have kc := fun (W : World) => forms_text W z (by omega)
          have hts : (strOfNums (List.replicate z (0 : Int))).size = z := by rw [strOfNums_size, List.length_replicate]
          generalize strOfNums (List.replicate z (0 : Int)) = text at *
          have HTS := hid hts
          clear hts
          go_upto_region 21 with fail
          have HWL := hid (show Fr [] w5 (w5.alloc (.cells (madeCells #[.int .u8 0] z) 5)) from Fr.alloc [] _ _)
          generalize w5.alloc (.cells (madeCells #[.int .u8 0] z) 5) = wl at *
          go_loopg [20, 21] n (fun gg s20 s21 wr => ∃ kk : Nat, kk ≤ n ∧ n - kk ≤ gg ∧ s21 = .int .i64 kk ∧ Hid (Kd.R Kd.string 9 wr wl.heap.size (fun _ => True) s20 (List.replicate kk text)) ∧ Hid (Below wl.heap.size wl wr))
          case atStart => exact ⟨0, by omega, by omega, rfl, hid (Kd.R_nil _ _ _ _ _), hid (Below.refl _ _)⟩
          case round =>
            obtain ⟨kk, hkk, hg, rfl, HR, HB⟩ := hrel
            obtain ⟨A20, c20, rfl⟩ := Kd.R_slice HR.out
            rw [List.length_replicate] at HR
            rw [List.length_replicate]
            by_cases hlt : kk < n
            · have hlz : (kk : Int) < (n : Int) := by omega
              have hkz : wrap64 ((kk : Int) + 1) = ((kk + 1 : Nat) : Int) := by unfold wrap64; omega
              go_wp2_with ((with_reducible refine gate_builtin (b := .append) (xs := #[.tmp 117, .tmp 119]) rfl ?_); at_builtin; refine Kd.R_append Kd.string (w0 := wl) wl.heap.size rfl (.tmp 117) (.tmp 119) 34 9 (.string ⟨#[]⟩) 16 rfl Tryd.underlying34 info9 rfl (by decide) (by omega) _ (List.replicate kk text) text [.string text] (fun _ => True) (fun _ => False) rfl rfl (by exact rfl) (fun _ hk => hk.elim) (fun _ _ => trivial) HR.out HB.out HB.out.size (by rw [List.length_replicate]; omega) ?_; intro v1 w1 ho hb hg hat; have HO := hid ho; have HB1 := hid hb; clear ho hb hg hat)
              go_roundg (n - (kk + 1))
              case measure => omega
              case rel => exact ⟨kk + 1, by omega, by omega, rfl, by rw [List.replicate_succ']; exact HO, HB1⟩
            · have hke : kk = n := by omega
              subst hke
              have HDW := hid ((DW5.out.new HWL.out).new (Fr.of_below HB.out []))
              have HLW := hid ((LW5.out.new HWL.out).new (Fr.of_below HB.out []))
              have HOWN := hid (show ∀ j ∈ k :: D5.own, j < wl.heap.size from fun j hj => by
                have h5 := HWL.out.size
                rcases List.mem_cons.1 hj with e | hj
                · obtain ⟨s, r, t, h1, _⟩ := LW5.out.lw
                  rw [e]; have := lt_of h1; omega
                · have := DW5.out.at_.lt j hj; omega)
              have HAP := hid (forms_append HDW.out HLW.out HL.out (by decide) HC5.out HN5.out kk z text HTS.out hn9 hz4 A20 c20 HR.out HOWN.out)
              clear HDW HLW HR HB DW5 LW5 HN5 HC5 HWL HOWN km kc
              go_upto_region 25 with (go_at_call 11; refine HAP.out.mono ?_; rintro e w6 ⟨cc, D6, G, rfl, dw6, lw6, d6, c6, g6, gl6, r6, h6⟩; have DW6 := hid dw6; have LW6 := hid lw6; have HD6 := hid (d6.trans HD5.out.d); have HC6 := hid c6; have HG6 := hid g6; have HGL := hid gl6; have HR6 := hid r6; have H6 := hid h6; clear dw6 lw6 d6 c6 g6 gl6 r6 h6)
              clear HAP
              have HCR := hid (crash_w DW6.out (by decide) (by omega) 0 0)
              rw [HD6.out] at HCR
              have HCU := hid (LW6.out.cuts DW6.out.good)
              go_upto_region 26 with (first
                | (go_at_call 13; refine HCR.out.mono ?_; rintro e w8 ⟨D8, rfl, hb8, dw8, dx8, cr8, low8⟩; have DX8 := hid dx8; have HR8 := hid (Kd.R_below HR6.out hb8); have LO8 := hid low8; obtain ⟨o8, r8, f8⟩ := HCU.out.crash DW6.out.good dx8.good cr8; have HO8 := hid (open_w dx8 HL.out (by decide) (by omega) wNameLog o8 f8 r8 HG6.out HGL.out); have HC8 := hid (Calm.crash (R := 12582912) HC6.out.room cr8); have HB8 := hid hb8; clear hb8 dw8 dx8 cr8 low8 f8 r8)
                | (go_at_call 10; refine HO8.out.mono ?_; intro e w9 h9; obtain ⟨D9, k9, v9, rfl, dw9, d9, fr9, own9, box9, r9, hk9, lw9⟩ := h9.calm HC8.out; have DW9 := hid dw9; have HR9 := hid r9; have HR6b := hid (Kd.R_step HR8.out (fun j hj hlt => fr9.keep j hlt (fun hm => by have := LO8.out j (.inl hm); have : j < w6.heap.size := hj; omega))); clear h9 dw9 d9 fr9 own9 box9 r9 hk9 lw9))
              clear HO8 HC8 HCR HCU DX8 HR8 LO8 DW6 LW6 HD6 HC6 HG6 HGL HR6 LW4 DW4
              have hkz0 : kk * z ≤ 9000 * 400 := Nat.mul_le_mul (by omega) (by omega)
              have hmul : ((kk * z : Nat) : Int) = (kk : Int) * (z : Int) := by push_cast; rfl
              have hq : wrap64 ((kk : Int) * (z : Int)) = (kk : Int) * (z : Int) := by rw [← hmul]; unfold wrap64; omega
              rcases H6.out with ⟨e1, e2, e3⟩ | ⟨e1, e2, e3⟩
              · subst e1
                subst e3
                clear H6
                obtain ⟨A9, c9, rfl⟩ := Kd.R_slice HR9.out
                have HS := hid (same_two tFirst w9 A9 c9 A20 c20 (List.replicate kk text) (by rw [List.length_replicate]; omega) HR9.out (by rw [List.length_replicate]; exact HR6b.out))
                rw [List.length_replicate] at HS
                have hn1 : ¬ 8192 < (kk : Int) := by omega
                have hn2 : ¬ 2097152 < (kk : Int) * (z : Int) := by rw [← hmul]; omega
                clear hmul hkz0 e2
                go_wp2_with (go_at_call 14; refine HS.out.mono ?_; rintro e w10 ⟨rfl, hd10⟩; have HD10 := hid hd10; clear hd10)
                go_ret
                refine ⟨rfl, ?_⟩
                have h9 := DW9.out.bel
                have hL := (litP_below tFirst (.slice A20 kk c20) w9).trans ((below_drawn HD10.out).mono (litP_below tFirst (.slice A20 kk c20) w9).size)
                exact h9.trans (hL.mono h9.size)
              · subst e1
                subst e3
                clear H6
                obtain ⟨A9, c9, rfl⟩ := Kd.R_slice HR9.out
                have HS := hid (same_one tFirst w9 A9 c9 HR9.out)
                by_cases h8 : 8192 < kk
                · have hn1 : 8192 < (kk : Int) := by omega
                  clear hmul hkz0 e2
                  go_wp2_with (go_at_call 14; refine HS.out.mono ?_; rintro e w10 ⟨rfl, hd10⟩; have HD10 := hid hd10; clear hd10)
                  go_ret
                  refine ⟨rfl, ?_⟩
                  have h9 := DW9.out.bel
                  have hL := (litO_below tFirst w9).trans ((below_drawn HD10.out).mono (litO_below tFirst w9).size)
                  exact h9.trans (hL.mono h9.size)
                · have hn1 : ¬ 8192 < (kk : Int) := by omega
                  have hn2 : 2097152 < (kk : Int) * (z : Int) := by rw [← hmul]; omega
                  clear hmul hkz0 e2
                  go_wp2_with (go_at_call 14; refine HS.out.mono ?_; rintro e w10 ⟨rfl, hd10⟩; have HD10 := hid hd10; clear hd10)
                  go_ret
                  refine ⟨rfl, ?_⟩
                  have h9 := DW9.out.bel
                  have hL := (litO_below tFirst w9).trans ((below_drawn HD10.out).mono (litO_below tFirst w9).size)
                  exact h9.trans (hL.mono h9.size)
end Go.Proofs.YthlmbgaipbjbhaaDoor.L
end
