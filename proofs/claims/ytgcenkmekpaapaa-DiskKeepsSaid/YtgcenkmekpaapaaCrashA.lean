/- Crash's closure. -/
import Derived.Test.YtgcenkmekpaapaaGrow
namespace Go.Proofs.Ytgcenkmekpaapaa.L
open Go.RowKit Go.Lib Go.Maps Go.ChangeMaps
open Go.Proofs.YtgcenkmekpaapaaW.PrintWords Go.Proofs.YtgcenkmekpaapaaW.PrintLast Go.Proofs.YtgcenkmekpaapaaW.PrintMore
section
variable {w : World} {m : Nat} {S : Nat → Prop} {g : Nat → Int}
theorem IsC.keep {w' : World} {b : Nat} (h : IsC w b) (hk : w'.heap[b]? = w.heap[b]?) : IsC w' b := by
  obtain ⟨c, t, h⟩ := h
  exact ⟨c, t, hk.trans h⟩
theorem IsC.lt {b : Nat} (h : IsC w b) : b < w.heap.size := by
  obtain ⟨c, t, h⟩ := h
  exact lt_of h
def addG (g : Nat → Int) (f : Nat) (k : Int) : Nat → Int := fun b => if b = f then g f + k else g b
set_option maxHeartbeats 4000000 in
set_option maxRecDepth 100000 in
theorem grow_calls (hG : GrowAt w m S g) (hS : ∀ b, S b → IsC w b) (sb : Nat) (hsb : w.heap[sb]? = some (.cells #[.map (some m)] 72 (0, 0))) (f : Nat) (hf : S f) (n k : Int) (h0 : 0 ≤ g f + k) (h1 : g f + k < 4611686018427387904) :
    Calls Try.prog 34 #[.agg #[P f, .int .i64 n, .nilFunc], .int .i64 k, P sb] w fun e w' => e = .returned (.tuple #[]) ∧ GrowAt w' m S (addG g f k) ∧ Fr [m] w w' := by
  have ho : ∀ b, b < w.heap.size → (w.alloc (.cells #[P f, .int .i64 n, .nilFunc] 67)).heap[b]? = w.heap[b]? := fun b hb => Below.heap_alloc w _ b hb
  have G1 : GrowAt (w.alloc (.cells #[P f, .int .i64 n, .nilFunc] 67)) m S g := hG.keep (ho _ hG.lt)
  have S1 : ∀ b, S b → IsC (w.alloc (.cells #[P f, .int .i64 n, .nilFunc] 67)) b := fun b hb => (hS b hb).keep (ho _ (hS b hb).lt)
  have el := G1.look S1 (S1 f hf)
  obtain ⟨w2, em, hg2, ht2⟩ := G1.store S1 hf (g f + k)
  have k1 : (w.alloc (.cells #[P f, .int .i64 n, .nilFunc] 67)).cell? ⟨sb, 0, none⟩ = some (.map (some m)) := (cell_of ((ho _ (lt_of hsb)).trans hsb) 0).trans rfl
  have HG2 := hid hg2
  have HF := hid ((Fr.alloc [m] w _).trans (Fr.turned ht2 (List.mem_singleton.2 rfl)) (fun _ hk => .inl hk))
  have hz : wrap64 (g f + k) = g f + k := by unfold wrap64; omega
  have hz2 : IntKind.i64.wrap (g f + k) = g f + k := by rw [IntKind.wrap_i64]; omega
  clear ho G1 S1 hg2 ht2 hG hS hsb hf
  go_enter Try.func34, Try.ntmps34
  go_wp2
  go_end0
  exact ⟨rfl, HG2.out, HF.out⟩
end
end Go.Proofs.Ytgcenkmekpaapaa.L
