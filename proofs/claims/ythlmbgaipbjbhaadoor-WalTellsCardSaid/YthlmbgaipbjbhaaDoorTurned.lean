/- One byte of a log's bytes is turned: what the bytes are read as. (Lists alone.) -/
import Derived.Test.YthlmbgaipbjbhaaDoorOpen
namespace Go.Proofs.YthlmbgaipbjbhaaDoor.L
open Go.RowKit Go.Lib Go.Maps
open Go.Proofs.YthlmbgaipbjbhaaDoorW.PrintWords Go.Proofs.YthlmbgaipbjbhaaDoorW.PrintLast Go.Proofs.YthlmbgaipbjbhaaDoorW.PrintMore
set_option linter.unusedVariables false
theorem xor_r {a b c : Nat} (h : a ^^^ b = a ^^^ c) : b = c := by
  have h2 : a ^^^ (a ^^^ b) = a ^^^ (a ^^^ c) := by rw [h]
  rwa [← Nat.xor_assoc, ← Nat.xor_assoc, Nat.xor_self, Nat.zero_xor, Nat.zero_xor] at h2
theorem xor_l {a b c : Nat} (h : b ^^^ a = c ^^^ a) : b = c := xor_r (by rw [Nat.xor_comm a b, Nat.xor_comm a c]; exact h)
theorem nibs_top : ∀ i < 16, ∀ j < 16, (nibs.getD i 0) >>> 28 = (nibs.getD j 0) >>> 28 → i = j := by decide
theorem half_inj {a b : Nat} (ha : a < 4294967296) (hb : b < 4294967296) (h : half a = half b) : a = b := by
  have key : ∀ c, c < 4294967296 → (half c) >>> 28 = (nibs.getD (c % 16) 0) >>> 28 := fun c hc => by
    unfold half
    rw [Nat.shiftRight_xor_distrib]
    have : (c / 16) >>> 28 = 0 := by rw [Nat.shiftRight_eq_div_pow]; omega
    rw [this, Nat.xor_zero]
  have h1 : a % 16 = b % 16 := nibs_top _ (Nat.mod_lt _ (by decide)) _ (Nat.mod_lt _ (by decide)) (by rw [← key a ha, ← key b hb, h])
  have h2 : a / 16 = b / 16 := by
    unfold half at h
    rw [h1] at h
    exact xor_r h
  omega
theorem step_c {c d x : Nat} (hc : c < 4294967296) (hd : d < 4294967296) (hx : x < 256) (h : crcStep c x = crcStep d x) : c = d := by
  have lt : ∀ {a}, a < 4294967296 → a ^^^ x < 4294967296 := fun {a} ha => Nat.xor_lt_two_pow (n := 32) ha (by omega)
  have h1 := half_inj (half_lt (lt hc)) (half_lt (lt hd)) h
  exact xor_l (half_inj (lt hc) (lt hd) h1)
theorem step_x {c x y : Nat} (hc : c < 4294967296) (hx : x < 256) (hy : y < 256) (h : crcStep c x = crcStep c y) : x = y := by
  have lt : ∀ {a}, a < 256 → c ^^^ a < 4294967296 := fun {a} ha => Nat.xor_lt_two_pow (n := 32) hc (by omega)
  have h1 := half_inj (half_lt (lt hx)) (half_lt (lt hy)) h
  exact xor_r (half_inj (lt hx) (lt hy) h1)
theorem from_inj : ∀ (l : List Int) {c d : Nat}, c < 4294967296 → d < 4294967296 → byteL l → crcFrom c l = crcFrom d l → c = d
  | [], c, d, _, _, _, h => h
  | x :: l, c, d, hc, hd, hl, h => by
    have hx := hl x List.mem_cons_self
    exact step_c hc hd (by omega) (from_inj l (crcStep_lt hc (by omega)) (crcStep_lt hd (by omega)) (fun y hy => hl y (List.mem_cons_of_mem _ hy)) h)
theorem crc_ne (a b : List Int) (x y : Int) (ha : byteL a) (hb : byteL b) (hx : 0 ≤ x ∧ x < 256) (hy : 0 ≤ y ∧ y < 256) (hne : x ≠ y) : crc (a ++ x :: b) ≠ crc (a ++ y :: b) := by
  unfold crc
  rw [crcFrom_append, crcFrom_append]
  have hs := crcFrom_lt a (c := 4294967295) (by decide) ha
  generalize crcFrom 4294967295 a = s at *
  show 4294967295 - crcFrom (crcStep s x.toNat) b ≠ 4294967295 - crcFrom (crcStep s y.toNat) b
  have h1 := crcStep_lt hs (show x.toNat < 256 by omega)
  have h2 := crcStep_lt hs (show y.toNat < 256 by omega)
  have h3 := crcFrom_lt b h1 hb
  have h4 := crcFrom_lt b h2 hb
  intro h
  have h5 := from_inj b h1 h2 hb (by omega)
  have h6 := step_x hs (by omega) (by omega) h5
  omega
theorem set_at {l : List Int} {p : Nat} (v : Int) (hp : p < l.length) : l = l.take p ++ l[p] :: l.drop (p + 1) ∧ l.set p v = l.take p ++ v :: l.drop (p + 1) := by
  constructor
  · conv => lhs; rw [← List.take_append_drop p l]
    rw [List.drop_eq_getElem_cons hp]
  · exact List.set_eq_take_append_cons_drop .. |>.trans (by rw [if_pos hp])
theorem crc_turn {l : List Int} {p : Nat} {v : Int} (hp : p < l.length) (hb : byteL l) (hv : 0 ≤ v ∧ v < 256) (hne : v ≠ l[p]) : crc (l.set p v) ≠ crc l := by
  obtain ⟨h1, h2⟩ := set_at v hp
  have ht : byteL (l.take p) := fun x hx => hb x (List.mem_of_mem_take hx)
  have hd : byteL (l.drop (p + 1)) := fun x hx => hb x (List.mem_of_mem_drop hx)
  rw [h2]
  conv => rhs; rw [h1]
  exact crc_ne _ _ _ _ ht hd hv (hb _ (List.getElem_mem hp)) hne
theorem set_byte {l : List Int} {p : Nat} {v : Int} (hb : byteL l) (hv : 0 ≤ v ∧ v < 256) : byteL (l.set p v) := fun x hx => by
  rcases List.mem_or_eq_of_mem_set hx with h | h
  · exact hb x h
  · rw [h]; exact hv
theorem four_of {l : List Int} (h : l.length = 4) (hb : byteL l) : ∃ n, n < 4294967296 ∧ l = four n := by
  match l, h with
  | [a, b, c, d], _ =>
    have ha := hb a (by simp)
    have hb' := hb b (by simp)
    have hc := hb c (by simp)
    have hd := hb d (by simp)
    refine ⟨a.toNat + 256 * b.toNat + 65536 * c.toNat + 16777216 * d.toNat, by omega, ?_⟩
    unfold four
    simp only [List.cons.injEq, and_true]
    refine ⟨?_, ?_, ?_, ?_⟩ <;> omega
theorem set_ne {l : List Int} {p : Nat} {v : Int} (hp : p < l.length) (hne : v ≠ l[p]) : l.set p v ≠ l := fun e => by
  have h1 : (l.set p v)[p]? = l[p]? := by rw [e]
  rw [List.getElem?_set_self hp, List.getElem?_eq_getElem hp] at h1
  injection h1 with h1
  exact hne h1
theorem head_turn (n : Nat) (rest : List Int) (hn : n < 4294967296) {p : Nat} {v : Int} (hp : p < 8) (hv : 0 ≤ v ∧ v < 256) (hne : v ≠ (four n ++ (four (crc (four n)) ++ rest))[p]'(by simp [four_length]; omega)) :
    RdIs ((four n ++ (four (crc (four n)) ++ rest)).set p v) [] 0 52 := by
  by_cases h4 : p < 4
  · have hpl : p < (four n).length := by rw [four_length]; exact h4
    obtain ⟨m, hm, e⟩ := four_of (l := (four n).set p v) (by rw [List.length_set]; rfl) (set_byte (four_byte n) hv)
    have hne' : v ≠ (four n)[p] := by rw [List.getElem_append_left hpl] at hne; exact hne
    have hc := crc_turn hpl (four_byte n) hv hne'
    rw [List.set_append_left _ _ hpl, e]
    exact .inr ⟨m, crc (four n), rest, rfl, hm, crc_lt _, .badHead (by rw [← e]; exact fun h => hc h.symm)⟩
  · have hpl : ¬ p < (four n).length := by rw [four_length]; exact h4
    have hql : p - 4 < (four (crc (four n))).length := by rw [four_length]; omega
    obtain ⟨m, hm, e⟩ := four_of (l := (four (crc (four n))).set (p - 4) v) (by rw [List.length_set]; rfl) (set_byte (four_byte _) hv)
    have hne' : v ≠ (four (crc (four n)))[p - 4] := by
      rw [List.getElem_append_right (by rw [four_length]; omega)] at hne
      simp only [four_length] at hne
      rw [List.getElem_append_left hql] at hne
      exact hne
    have hs := set_ne hql hne'
    rw [List.set_append_right _ _ (by rw [four_length]; omega), four_length, List.set_append_left _ _ hql, e]
    exact .inr ⟨n, m, rest, rfl, hn, hm, .badHead (fun h => hs (by rw [e, h]))⟩
theorem body_turn (n : Nat) (bb rest : List Int) (hn : n < 4294967296) (hl : bb.length = n) (hb : byteL bb) {p : Nat} {v : Int} (hp : p < n + 4) (hv : 0 ≤ v ∧ v < 256) (hne : v ≠ (bb ++ (four (crc bb) ++ rest))[p]'(by simp [four_length]; omega)) :
    RdIs (four n ++ (four (crc (four n)) ++ (bb ++ (four (crc bb) ++ rest)).set p v)) [] 0 52 := by
  by_cases h : p < n
  · have hpl : p < bb.length := by omega
    have hne' : v ≠ bb[p] := by rw [List.getElem_append_left hpl] at hne; exact hne
    rw [List.set_append_left _ _ hpl]
    exact .inr ⟨n, _, _, rfl, hn, crc_lt _, .badBody rfl (bb.set p v) (crc bb) rest rfl (by rw [List.length_set, hl]) (crc_lt _) (fun h => crc_turn hpl hb hv hne' h.symm)⟩
  · have hql : p - bb.length < (four (crc bb)).length := by rw [four_length]; omega
    have hne' : v ≠ (four (crc bb))[p - bb.length] := by
      rw [List.getElem_append_right (by omega)] at hne
      rw [List.getElem_append_left hql] at hne
      exact hne
    obtain ⟨m, hm, e⟩ := four_of (l := (four (crc bb)).set (p - bb.length) v) (by rw [List.length_set]; rfl) (set_byte (four_byte _) hv)
    have hs := set_ne hql hne'
    rw [List.set_append_right _ _ (by omega), List.set_append_left _ _ hql, e]
    exact .inr ⟨n, _, _, rfl, hn, crc_lt _, .badBody rfl bb m rest rfl hl hm (fun h => hs (by rw [e, h]))⟩
def Turned (G : List (List ByteArray)) (b : List Int) : Prop := ∃ (G1 : List (List ByteArray)) (t : List Int), b = encs G1 ++ t ∧ (∀ g ∈ G1, GOk g) ∧ G1.length ≤ G.length ∧ byteL t ∧ ((G1 = G ∧ RdIs t [] 0 0) ∨ (t ≠ [] ∧ RdIs t [] 0 52))
theorem tail_turn {t : List Int} (h : Tail t) {p : Nat} {v : Int} (hp : p < t.length) (hv : 0 ≤ v ∧ v < 256) (hne : v ≠ t[p]) : RdIs (t.set p v) [] 0 0 ∨ RdIs (t.set p v) [] 0 52 := by
  obtain ⟨g, m, hg, hm, rfl⟩ := h
  have hb := hg.body
  have := hg.1
  have := hg.2
  have hl := enc_length g
  by_cases h8 : m < 8
  · exact .inl (.inl ⟨by rw [List.length_set, List.length_take]; omega, rfl, rfl, rfl⟩)
  · have e : enc g = (four (body g).length ++ four (crc (four (body g).length))) ++ (body g ++ four (crc (body g))) := by unfold enc headL; simp only [List.append_assoc]
    have e8 : (four (body g).length ++ four (crc (four (body g).length))).length = 8 := rfl
    have et : (enc g).take m = four (body g).length ++ (four (crc (four (body g).length)) ++ (body g ++ four (crc (body g))).take (m - 8)) := by
      rw [e, List.take_append, e8, List.take_of_length_le (by rw [e8]; omega), List.append_assoc]
    have hn : (body g).length < 4294967296 := by omega
    by_cases hp8 : p < 8
    · right
      have hne2 : v ≠ (four (body g).length ++ (four (crc (four (body g).length)) ++ (body g ++ four (crc (body g))).take (m - 8)))[p]'(by simp [four_length]; omega) := by
        intro h; apply hne; rw [h]; simp only [et]
      rw [et]
      exact head_turn _ _ hn hp8 hv hne2
    · left
      have hpl : p < 8 + ((body g ++ four (crc (body g))).take (m - 8)).length := by
        rw [et] at hp
        simp only [List.length_append, four_length] at hp
        omega
      rw [et, List.set_append_right _ _ (by rw [four_length]; omega), four_length, List.set_append_right _ _ (by rw [four_length]; omega), four_length]
      exact .inr ⟨(body g).length, _, _, rfl, hn, crc_lt _, .cut rfl (by rw [List.length_set, List.length_take]; omega)⟩
theorem turn_log : ∀ (G : List (List ByteArray)) (t : List Int), (∀ g ∈ G, GOk g) → Tail t → ∀ (p : Nat) (v : Int) (hp : p < (encs G ++ t).length), 0 ≤ v ∧ v < 256 → v ≠ (encs G ++ t)[p] → Turned G ((encs G ++ t).set p v)
  | [], t, hG, ht, p, v, hp, hv, hne => by
    have e : encs [] ++ t = t := rfl
    have hp' : p < t.length := hp
    have hne' : v ≠ t[p] := hne
    rcases tail_turn ht hp' hv hne' with h | h
    · exact ⟨[], t.set p v, rfl, (fun _ h => by cases h), Nat.le_refl _, set_byte ht.byte hv, .inl ⟨rfl, h⟩⟩
    · exact ⟨[], t.set p v, rfl, (fun _ h => by cases h), Nat.le_refl _, set_byte ht.byte hv, .inr ⟨fun e => by rw [← List.length_eq_zero_iff, List.length_set] at e; omega, h⟩⟩
  | g :: G, t, hG, ht, p, v, hp, hv, hne => by
    have hg := hG g List.mem_cons_self
    have hb := hg.body
    have := hg.1
    have := hg.2
    have hn : (body g).length < 4294967296 := by omega
    have hbyte : byteL (encs (g :: G) ++ t) := byteL_app (encs_byte _) ht.byte
    have e : encs (g :: G) ++ t = four (body g).length ++ (four (crc (four (body g).length)) ++ (body g ++ (four (crc (body g)) ++ (encs G ++ t)))) := by
      rw [encs_cons]; unfold enc headL; simp only [List.append_assoc]
    by_cases h1 : p < (enc g).length
    · refine ⟨[], (encs (g :: G) ++ t).set p v, rfl, (fun _ h => by cases h), Nat.zero_le _, set_byte hbyte hv, .inr ⟨fun e => by rw [← List.length_eq_zero_iff, List.length_set] at e; omega, ?_⟩⟩
      have hl := enc_length g
      by_cases h8 : p < 8
      · have hne2 : v ≠ (four (body g).length ++ (four (crc (four (body g).length)) ++ (body g ++ (four (crc (body g)) ++ (encs G ++ t)))))[p]'(by rw [← e]; exact hp) := fun h => hne (by rw [h]; simp only [e])
        rw [e]
        exact head_turn _ _ hn h8 hv hne2
      · have hq : p - 4 - 4 < (body g).length + 4 := by omega
        have hlt : p - 4 - 4 < (body g ++ (four (crc (body g)) ++ (encs G ++ t))).length := by simp only [List.length_append, four_length]; omega
        have hq2 : (encs (g :: G) ++ t)[p]? = (body g ++ (four (crc (body g)) ++ (encs G ++ t)))[p - 4 - 4]? := by
          rw [e, List.getElem?_append_right (by rw [four_length]; omega), List.getElem?_append_right (by simp only [four_length]; omega)]
          simp only [four_length]
        rw [List.getElem?_eq_getElem hp, List.getElem?_eq_getElem hlt] at hq2
        injection hq2 with hq2
        have hne2 : v ≠ (body g ++ (four (crc (body g)) ++ (encs G ++ t)))[p - 4 - 4] := fun h => hne (by rw [h, hq2])
        rw [e, List.set_append_right _ _ (by rw [four_length]; omega), four_length, List.set_append_right _ _ (by rw [four_length]; omega), four_length]
        exact body_turn _ _ _ hn rfl (body_byte g) hq hv hne2
    · have e2 : encs (g :: G) ++ t = enc g ++ (encs G ++ t) := by rw [encs_cons, List.append_assoc]
      have hp2 : p - (enc g).length < (encs G ++ t).length := by rw [e2, List.length_append] at hp; omega
      have hq2 : (encs (g :: G) ++ t)[p]? = (encs G ++ t)[p - (enc g).length]? := by rw [e2, List.getElem?_append_right (by omega)]
      rw [List.getElem?_eq_getElem hp, List.getElem?_eq_getElem hp2] at hq2
      injection hq2 with hq2
      have hne2 : v ≠ (encs G ++ t)[p - (enc g).length] := fun h => hne (by rw [h, hq2])
      obtain ⟨G1, t1, h2, h3, h4, h5, h6⟩ := turn_log G t (fun x hx => hG x (List.mem_cons_of_mem _ hx)) ht (p - (enc g).length) v hp2 hv hne2
      refine ⟨g :: G1, t1, ?_, fun x hx => ?_, by simp only [List.length_cons]; omega, h5, ?_⟩
      · rw [e2, List.set_append_right _ _ (by omega), h2, encs_cons, List.append_assoc]
      · rcases List.mem_cons.1 hx with e | hx
        · rw [e]; exact hg
        · exact h3 x hx
      · rcases h6 with ⟨rfl, h6⟩ | h6
        · exact .inl ⟨rfl, h6⟩
        · exact .inr h6
end Go.Proofs.YthlmbgaipbjbhaaDoor.L
