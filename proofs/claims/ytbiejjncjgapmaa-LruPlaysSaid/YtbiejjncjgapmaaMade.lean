/- A cache that the call itself has made; the document's examples. -/
import Derived.Test.YtbiejjncjgapmaaNew
import Derived.Test.YtbiejjncjgapmaaPx1
namespace Go.Proofs.Ytbiejjncjgapmaa.L
open Go.RowKit Go.Lib Go.Proofs.Ytbiejjncjgapmaa.P
open Go.Proofs.YtbiejjncjgapmaaW.PrintWords Go.Proofs.YtbiejjncjgapmaaW.PrintLast Go.Proofs.YtbiejjncjgapmaaW.PrintMore
structure Made (w0 w : World) (c m : Nat) (os : List Item) (bud : Int) (n : Nat) : Prop where
  at_ : ∃ is, CacheAt w c m is os bud (weightI os) n ∧ ∀ k ∈ m :: blks c is, w0.heap.size ≤ k
  below : Below w0.heap.size w0 w
section
variable {w0 w : World} {c m : Nat} {os : List Item} {bud : Int} {n : Nat}
theorem Made.keep {w' : World} (h : Made w0 w c m os bud n) (b : Below w.heap.size w w') : Made w0 w' c m os bud n := by
  obtain ⟨is, hc, hk⟩ := h.at_
  exact ⟨⟨is, hc.fr (Fr.of_below b []) (fun k _ hm => by simp at hm), hk⟩, h.below.trans (b.mono h.below.size)⟩
theorem made_new (b : Int) (hb : 0 ≤ b) (w : World) :
    Calls Try.prog 8 #[.int .i64 b] w fun e w' => ∃ c m : Nat, e = .returned (P c) ∧ Made w w' c m [] b 0 := by
  refine (new_pos w b hb).mono ?_
  rintro e w' ⟨c, he, hc, m, hm, hh, hbl⟩
  refine ⟨c, m, he, ⟨[], hh, fun k hk => ?_⟩, hbl⟩
  rcases List.mem_cons.1 hk with e | hk
  · rw [e]; exact hm
  · rw [show k = c by simpa [blks] using hk]; exact hc
theorem made_get (h : Made w0 w c m os bud n) (s : ByteArray) (hs : s.size ≤ maxLen) :
    Calls Try.prog 14 #[P c, .string s] w fun e w' => e = .returned (.tuple #[.string (getV os s).1, .bool (getV os s).2]) ∧ Made w0 w' c m (getI os s) bud n := by
  obtain ⟨is, hc, hk⟩ := h.at_
  refine (get_calls hc s hs).mono ?_
  rintro e w' ⟨he, hh, hf⟩
  have hw : weightI (getI os s) = weightI os := by
    unfold getI
    cases hx : findI os s with
    | none => rfl
    | some x =>
      show weightI (x :: outI os s) = _
      rw [weight_cons, weight_out hx hc.keys]; omega
  rw [← hw] at hh
  refine ⟨he, ⟨⟨is, hh, hk⟩, h.below.trans (hf.below h.below.size (fun k hm => hk k (List.mem_cons_of_mem _ hm)))⟩⟩
theorem made_big (h : Made w0 w c m os bud n) (key val : ByteArray) (hk : key.size < 1152921504606846976) (hv : val.size < 1152921504606846976) (hb : bud < (key.size : Int) + (val.size : Int)) :
    Calls Try.prog 11 #[P c, .string key, .string val] w fun e w' => e = .returned (.tuple #[.slice none 0 0, .int .i64 70]) ∧ w' = w := by
  obtain ⟨is, hc, _⟩ := h.at_
  exact put_big hc key val hk hv hb
theorem made_put (h : Made w0 w c m os bud n) (hw : weightI os < 2305843009213693952) (hbud : 0 ≤ bud) (hn : n + 1 < maxLen) (hos : os.length < 4294967295) (key val : ByteArray) (hk : key.size < 1152921504606846976) (hkm : key.size ≤ maxLen) (hv : val.size < 1152921504606846976) (hb : ¬ bud < (key.size : Int) + (val.size : Int)) :
    Calls Try.prog 11 #[P c, .string key, .string val] w fun e w' => ∃ (v : Value) (b : Nat), e = .returned (.tuple #[v, .int .i64 0]) ∧ Kd.R Kd.string 9 w' w.heap.size (fun _ => True) v (evR bud (⟨b, key, val⟩ :: outI os key).reverse).2 ∧
      Made w0 w' c m (evR bud (⟨b, key, val⟩ :: outI os key).reverse).1.reverse bud (n + 1) := by
  obtain ⟨is, hc, hko⟩ := h.at_
  refine (put_fits hc hw hbud hn hos key val hk hkm hv hb).mono ?_
  rintro e w' ⟨v, b, he, hwb, hr, hh, hf⟩
  refine ⟨v, b, he, Kd.R_mono hr (fun _ _ => trivial), ⟨_, hh, fun k hkk => ?_⟩, h.below.trans (hf.below h.below.size hko)⟩
  have hs := h.below.size
  rcases List.mem_cons.1 hkk with e | hkk
  · rw [e]; exact hko m List.mem_cons_self
  · rcases List.mem_cons.1 hkk with e | hkk
    · rw [e]; exact hko c (List.mem_cons_of_mem _ List.mem_cons_self)
    · rcases List.mem_cons.1 hkk with e | hkk
      · rw [e]
        exact Nat.le_trans hs hwb
      · exact hko k (List.mem_cons_of_mem _ (List.mem_cons_of_mem _ hkk))
theorem made_bytes (h : Made w0 w c m os bud n) :
    Calls Try.prog 18 #[P c] w fun e w' => e = .returned (.int .i64 (weightI os)) ∧ w' = w := by
  obtain ⟨is, hc, _⟩ := h.at_
  obtain ⟨nx, pv, hl⟩ := hc.half.lies
  exact bytes_calls hl
theorem made_keys (h : Made w0 w c m os bud n) (hlen : os.length < 4294967296) :
    Calls Try.prog 20 #[P c] w fun e w' => ∃ v : Value, e = .returned v ∧ Kd.R Kd.string 9 w' w.heap.size (fun _ => True) v (os.map (·.key)) ∧ Below w.heap.size w w' := by
  obtain ⟨is, hc, _⟩ := h.at_
  exact keys_calls hc.half hlen
end
section
abbrev sa : ByteArray := ⟨#[97]⟩
abbrev sb : ByteArray := ⟨#[98]⟩
abbrev sc : ByteArray := ⟨#[99]⟩
abbrev sd : ByteArray := ⟨#[100]⟩
abbrev s1 : ByteArray := ⟨#[49]⟩
abbrev s2 : ByteArray := ⟨#[50]⟩
abbrev s3 : ByteArray := ⟨#[51]⟩
abbrev s45 : ByteArray := ⟨#[52, 53]⟩
end
end Go.Proofs.Ytbiejjncjgapmaa.L
