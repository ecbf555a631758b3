/- Keys. -/
import Derived.Test.YtbiejjncjgapmaaGet
import Derived.Test.YtbiejjncjgapmaaWMore
import Derived.Test.YtbiejjncjgapmaaWGuard
import Derived.LaidEqlPtr
namespace Go.Proofs.Ytbiejjncjgapmaa.L
open Go.RowKit Go.Lib
open Go.Proofs.YtbiejjncjgapmaaW.PrintWords Go.Proofs.YtbiejjncjgapmaaW.PrintLast Go.Proofs.YtbiejjncjgapmaaW.PrintMore
theorem info9 : (Try.prog.info? 9).map (fun i => (i.zero, i.size, i.bytes)) = some (some (.string ⟨#[]⟩), 1, 16) := by kernel_rfl
theorem u46 : Try.prog.underlying 46 = some (.pointer 48) := by kernel_rfl
theorem i48 : ∃ j, Try.prog.info? 48 = some j ∧ j.size ≠ 0 := by
  have h : (Try.prog.info? 48).map (·.size) = some 4 := by kernel_rfl
  obtain ⟨j, hj, hs⟩ := Option.map_eq_some_iff.1 h
  exact ⟨j, hj, by omega⟩
theorem neq_same (w : World) (a : Addr) : (binOp .neq 46 (.pointer (some a)) (.pointer (some a))).run Try.prog w = .ok (.bool false) w := by
  obtain ⟨j, hj, hs⟩ := i48
  have h : ∀ d : Nat, (Op.equalIn (d + 1) 46 (.pointer (some a)) (.pointer (some a))).run Try.prog w = .ok true w := fun d => by
    simp [Op.equalIn, run_underlying u46, sizeOf, typeInfo, hj, run_sameAddr_same]
  simp only [binOp]
  simp [Op.equal, Op.maxDepth, h 9999]
theorem neq_other (w : World) {a b : Addr} {ca cb : Array Value} {ta tb : TypeId} (hne : a ≠ b) (ha : w.heap[a.block]? = some (.cells ca ta (0, 0))) (hb : w.heap[b.block]? = some (.cells cb tb (0, 0))) :
    (binOp .neq 46 (.pointer (some a)) (.pointer (some b))).run Try.prog w = .ok (.bool true) w := by
  obtain ⟨j, hj, hs⟩ := i48
  have h : ∀ d : Nat, (Op.equalIn (d + 1) 46 (.pointer (some a)) (.pointer (some b))).run Try.prog w = .ok false w := fun d => by
    simp [Op.equalIn, run_underlying u46, sizeOf, typeInfo, hj, hs, run_sameAddr_other w hne ha hb]
  simp only [binOp]
  simp [Op.equal, Op.maxDepth, h 9999]
theorem Linked.nth {nx pv : Nat → Nat} : ∀ (l : List Nat) (i : Nat), Linked nx pv l → i + 1 < l.length → nx (l.getD i 0) = l.getD (i + 1) 0 := by
  intro l
  induction l with
  | nil => intro i _ h; simp at h
  | cons a r ih =>
    intro i h hi
    cases r with
    | nil => simp at hi
    | cons b r =>
      cases i with
      | zero => exact h.1
      | succ i => exact ih i h.2.2 (by simpa using hi)
def nb (c : Nat) (os : List Item) (k : Nat) : Nat := (os.map (·.blk) ++ [c]).getD k 0
theorem nb_end (c : Nat) (os : List Item) : nb c os os.length = c := by
  unfold nb
  rw [List.getD_eq_getElem?_getD, List.getElem?_append_right (by simp)]
  simp
theorem nb_at (c : Nat) (os : List Item) (k : Nat) (h : k < os.length) : nb c os k = os[k].blk := by
  unfold nb
  rw [List.getD_eq_getElem?_getD, List.getElem?_append_left (by simpa using h)]
  simp [h]
section
variable {w : World} {c m : Nat} {is os : List Item} {bud byt : Int}
set_option maxHeartbeats 4000000 in
set_option maxRecDepth 100000 in
theorem keys_calls (h : Half w c m is os bud byt) (hlen : os.length < 4294967296) :
    Calls Try.prog 20 #[P c] w fun e w' => ∃ v : Value, e = .returned v ∧ Kd.R Kd.string 9 w' w.heap.size (fun _ => True) v (os.map (·.key)) ∧ Below w.heap.size w w' := by
  obtain ⟨nx, pv, hl, hr⟩ := h.link
  have hnx : ∀ k, k < os.length → nx (nb c os k) = nb c os (k + 1) := fun k hk => by
    have := Linked.nth _ (k + 1) hr (by simp; omega)
    exact this
  have hn0 : nx c = nb c os 0 := Linked.nth _ 0 hr (by simp)
  have hlt := hl.lt
  have c3 := hl.next (List.mem_cons_self : c ∈ blks c is)
  rw [hn0] at c3
  have HN := hid hnx
  have HL := hid (And.intro hl (And.intro h.sub hlt))
  have hcne : ∀ k (hk : k < os.length), nb c os k ≠ c := fun k hk e => by
    rw [nb_at c os k hk] at e
    exact (List.nodup_cons.1 h.nd).1 (e ▸ List.mem_map_of_mem (List.getElem_mem hk))
  have HC := hid hcne
  have HR0 := hid (Kd.R_nil Kd.string 9 w w.heap.size (fun _ => True))
  have HB0 := hid (Below.refl w.heap.size w)
  clear h hl hr hnx hn0 hlt hcne
  go_enter Try.func20, Try.ntmps20
  go_wp2
  go_loopg [3, 4] os.length (fun gg s3 s4 wr => ∃ (kk : Nat), kk ≤ os.length ∧ os.length - kk ≤ gg ∧ s4 = P (nb c os kk) ∧ Hid (Kd.R Kd.string 9 wr w.heap.size (fun _ => True) s3 ((os.take kk).map (·.key))) ∧ Hid (Below w.heap.size w wr))
  case atStart => exact ⟨0, Nat.zero_le _, by omega, rfl, HR0, HB0⟩
  case round =>
    clear HR0 HB0
    obtain ⟨kk, hkk, hg, rfl, HR, HB⟩ := hrel
    obtain ⟨A, c1, hv⟩ := Kd.R_slice HR.out
    subst hv
    by_cases hlt : kk < os.length
    · have hbe := nb_at c os kk hlt
      have hin : os[kk] ∈ is := HL.out.2.1 _ (List.getElem_mem hlt)
      have hbl : os[kk].blk < w.heap.size := HL.out.2.2 _ (List.mem_cons_of_mem _ (List.mem_map_of_mem hin))
      have k0 : wr.cell? ⟨nb c os kk, 0, none⟩ = some (.string os[kk].key) := by
        rw [hbe]
        exact (HB.out.cell (p := ⟨os[kk].blk, 0, none⟩) hbl).trans (HL.out.1.key hin)
      have k3 : w.cell? ⟨nb c os kk, 3, none⟩ = some (P (nb c os (kk + 1))) := by
        rw [← HN.out kk hlt, hbe]
        exact HL.out.1.next (List.mem_cons_of_mem _ (List.mem_map_of_mem hin))
      have hcmp : (binOp .neq 46 (P (nb c os kk)) (P c)).run Try.prog wr = .ok (.bool true) wr := by
        obtain ⟨A1, t1, o1, _⟩ := HL.out.1.obj (List.mem_cons_self : c ∈ blks c is)
        obtain ⟨A2, t2, o2, _⟩ := HL.out.1.obj (show nb c os kk ∈ blks c is by rw [hbe]; exact List.mem_cons_of_mem _ (List.mem_map_of_mem hin))
        refine neq_other wr (fun e => HC.out kk hlt ?_) ((HB.out.block _ (by rw [hbe]; exact hbl)).trans o2) ((HB.out.block _ (HL.out.2.2 c List.mem_cons_self)).trans o1)
        injection e
      have htk : (os.take (kk + 1)).map (·.key) = (os.take kk).map (·.key) ++ [os[kk].key] := by
        rw [List.take_succ_eq_append_getElem hlt, List.map_append]; rfl
      have hlk : ((os.take kk).map (·.key)).length = kk := by rw [List.length_map, List.length_take]; omega
      rw [← hbe] at hbl
      generalize hae : (os.take kk).map (·.key) = acc at HR htk hlk
      generalize hse : os[kk].key = s at k0 htk
      generalize hqe : nb c os (kk + 1) = q at k3
      generalize hpe : nb c os kk = p at k0 k3 hcmp hbl
      clear hbe hin hae hse
      have hBw : w.heap.size ≤ wr.heap.size := HB.out.size
      go_wp2_with (first | ((with_reducible refine gate_builtin (b := .append) (xs := #[.tmp 23, .tmp 28]) rfl ?_); (try (refine gate_guard (by rfl) ?_; dsimp only)); at_builtin; refine Kd.R_append Kd.string (w0 := w) w.heap.size rfl (.tmp 23) (.tmp 28) 28 9 (.string ⟨#[]⟩) 16 rfl Try.underlying28 info9 rfl (by decide) (by omega) (.slice A acc.length c1) acc s [.string s] (fun _ => True) (fun _ => False) rfl rfl ?aP (fun _ hk => hk.elim) (fun _ _ => trivial) ?aO ?aB ?aS ?aL ?_; (case aP => exact rfl); (case aO => exact HR.out); (case aB => exact HB.out); (case aS => exact hBw); (case aL => omega); intro v1 w1 ho hb hg1 hat; have k3' : w1.cell? ⟨p, 3, none⟩ = some (P q) := ((hb.cell (p := ⟨p, 3, none⟩) hbl).trans k3); have HR1 := hid ho; have HB1 := hid hb; clear ho hb hg1 hat))
      go_roundg (os.length - (kk + 1))
      case measure => omega
      case rel => exact ⟨kk + 1, by omega, by omega, by rw [hqe], by rw [htk]; exact HR1, HB1⟩
    · obtain rfl : kk = os.length := by omega
      have hcmp : (binOp .neq 46 (P c) (P c)).run Try.prog wr = .ok (.bool false) wr := neq_same wr _
      rw [nb_end]
      go_wp2
      go_ret
      refine ⟨_, rfl, ?_, HB.out⟩
      have h := HR.out
      show Kd.R Kd.string _ _ _ _ (Value.slice A ((os.take os.length).map (·.key)).length c1) _
      rw [List.take_length] at h ⊢
      exact h
end
end Go.Proofs.Ytbiejjncjgapmaa.L
