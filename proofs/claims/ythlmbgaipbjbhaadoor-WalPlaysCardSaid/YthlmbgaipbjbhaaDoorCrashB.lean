/- A map from files to numbers (Crash's 'sure'), and the closure that adds to it. Crash's closure. Crash: the loose acts done again. (Printed by gen_crash.py.) -/
import Derived.Test.YthlmbgaipbjbhaaDoorSync
section
namespace Go.Proofs.YthlmbgaipbjbhaaDoor.L
open Go.RowKit Go.Lib Go.Maps Go.ChangeMaps Go.MapKept
open Go.Proofs.YthlmbgaipbjbhaaDoorW.PrintWords Go.Proofs.YthlmbgaipbjbhaaDoorW.PrintLast Go.Proofs.YthlmbgaipbjbhaaDoorW.PrintMore
abbrev IsC (w : World) (b : Nat) : Prop := ∃ c t, w.heap[b]? = some (.cells c t (0, 0))
theorem eqP {w : World} {a b : Nat} (ha : IsC w a) (hb : IsC w b) : (Op.equal 86 (P a) (P b)).run Tryd.prog w = .ok (decide (a = b)) w := by
  obtain ⟨j, hj, hs⟩ := iP
  by_cases e : a = b
  · subst e
    have h : ∀ d : Nat, (Op.equalIn (d + 1) 86 (P a) (P a)).run Tryd.prog w = .ok true w := fun d => by
      simp [Op.equalIn, run_underlying uP, sizeOf, typeInfo, hj, run_sameAddr_same]
    rw [decide_eq_true rfl]
    exact h 9999
  · obtain ⟨c1, t1, h1⟩ := ha
    obtain ⟨c2, t2, h2⟩ := hb
    have h : ∀ d : Nat, (Op.equalIn (d + 1) 86 (P a) (P b)).run Tryd.prog w = .ok false w := fun d => by
      simp [Op.equalIn, run_underlying uP, sizeOf, typeInfo, hj, hs, run_sameAddr_other w (a := ⟨a, 0, none⟩) (b := ⟨b, 0, none⟩) (fun h => e (by injection h)) h1 h2]
    rw [decide_eq_false e]
    exact h 9999
def kv (e : MapEntry) : Value × Value := (e.key, e.val)
def enP (p : Nat × Int) : Value × Value := (P p.1, .int .i64 p.2)
theorem askP {w : World} {k : Nat} (hk : IsC w k) : ∀ (es : List MapEntry) (l : List (Nat × Int)) (i : Nat), es.map kv = l.map enP → (∀ p ∈ l, IsC w p.1) →
    (k ∉ l.map (·.1) → (Instr.findAsking 86 (P k) es i).run Tryd.prog w = .ok none w) ∧
    ∀ l1 n l2, l = l1 ++ (k, n) :: l2 → k ∉ l1.map (·.1) → (Instr.findAsking 86 (P k) es i).run Tryd.prog w = .ok (some (i + l1.length, .int .i64 n)) w
  | [], l, i, he, hl => by
    have hnil : l = [] := by cases l with | nil => rfl | cons _ _ => cases he
    subst hnil
    exact ⟨fun _ => by simp [Instr.findAsking], fun l1 n l2 e => by cases l1 <;> cases e⟩
  | e :: es, l, i, he, hl => by
    cases l with
    | nil => cases he
    | cons p l =>
      simp only [List.map_cons, List.cons.injEq] at he
      have h1 : e.key = P p.1 := congrArg Prod.fst he.1
      have h2 : e.val = .int .i64 p.2 := congrArg Prod.snd he.1
      have ih := askP hk es l (i + 1) he.2 (fun q hq => hl q (List.mem_cons_of_mem _ hq))
      have heq := eqP hk (hl p List.mem_cons_self)
      refine ⟨fun hn => ?_, fun l1 n l2 e2 hn => ?_⟩
      · simp only [List.map_cons, List.mem_cons, not_or] at hn
        rw [decide_eq_false hn.1] at heq
        simp [Instr.findAsking, h1, heq, ih.1 hn.2]
      · cases l1 with
        | nil =>
          obtain ⟨e3, e4⟩ := List.cons.inj e2
          subst e3
          rw [decide_eq_true rfl] at heq
          simp [Instr.findAsking, h1, heq, h2]
        | cons q l1 =>
          obtain ⟨e3, e4⟩ := List.cons.inj e2
          subst e3
          simp only [List.map_cons, List.mem_cons, not_or] at hn
          rw [decide_eq_false hn.1] at heq
          simp [Instr.findAsking, h1, heq, ih.2 l1 n l2 e4 hn.2]
          omega
theorem nowP (k : Nat) : ∀ (es : List MapEntry) (l : List (Nat × Int)), es.map kv = l.map enP → Instr.findNow (.pointer 92) (P k) es 0 = if es = [] then some none else none
  | [], _, _ => rfl
  | e :: es, l, he => by
    cases l with
    | nil => cases he
    | cons p l =>
      simp only [List.map_cons, List.cons.injEq] at he
      simp [Instr.findNow, Instr.sameNow]
theorem findP {w : World} {k : Nat} (hk : IsC w k) (es : List MapEntry) (l : List (Nat × Int)) (he : es.map kv = l.map enP) (hl : ∀ p ∈ l, IsC w p.1) :
    (k ∉ l.map (·.1) → (Instr.findKey 86 (P k) es).run Tryd.prog w = .ok none w) ∧
    ∀ l1 n l2, l = l1 ++ (k, n) :: l2 → k ∉ l1.map (·.1) → (Instr.findKey 86 (P k) es).run Tryd.prog w = .ok (some (l1.length, .int .i64 n)) w := by
  have hn := nowP k es l he
  have ha := askP hk es l 0 he hl
  cases hes : es with
  | nil =>
    rw [hes] at hn he
    refine ⟨fun _ => by simp [Instr.findKey, run_underlying uP, Instr.findNow], fun l1 n l2 e => ?_⟩
    have hnil : l = [] := by cases l with | nil => rfl | cons _ _ => cases he
    rw [hnil] at e
    cases l1 <;> cases e
  | cons x xs =>
    rw [hes] at hn ha
    rw [if_neg (by simp)] at hn
    refine ⟨fun h => by simp [Instr.findKey, run_underlying uP, hn, ha.1 h], fun l1 n l2 e h => ?_⟩
    have := ha.2 l1 n l2 e h
    rw [Nat.zero_add] at this
    simp [Instr.findKey, run_underlying uP, hn, this]
def GrowAt (w : World) (m : Nat) (S : Nat → Prop) (g : Nat → Int) : Prop :=
  ∃ (es : Array MapEntry) (clock : Nat) (l : List (Nat × Int)), w.heap[m]? = some (.map es clock) ∧ es.toList.map kv = l.map enP ∧ (l.map (·.1)).Nodup ∧ (∀ p ∈ l, S p.1) ∧ (∀ p ∈ l, g p.1 = p.2) ∧ ∀ b, b ∉ l.map (·.1) → g b = 0
section
variable {w : World} {m : Nat} {S : Nat → Prop} {g : Nat → Int}
theorem GrowAt.made (w : World) (S : Nat → Prop) : GrowAt (w.alloc (.map #[] 0)) w.heap.size S (fun _ => 0) :=
  ⟨#[], 0, [], (MapKept.heap_alloc w _).1, rfl, List.nodup_nil, by simp, by simp, fun _ _ => rfl⟩
theorem GrowAt.keep {w' : World} (h : GrowAt w m S g) (hk : w'.heap[m]? = w.heap[m]?) : GrowAt w' m S g := by
  obtain ⟨es, clock, l, h1, h2⟩ := h
  exact ⟨es, clock, l, hk.trans h1, h2⟩
theorem GrowAt.lt (h : GrowAt w m S g) : m < w.heap.size := by
  obtain ⟨es, clock, l, h1, h2⟩ := h
  exact (Array.getElem?_eq_some_iff.1 h1).1
theorem ckP (w : World) (b : Bool) (k : Nat) : (Instr.checkKey b 10000 86 (P k)).run Tryd.prog w = .ok () w := by
  have h : ∀ n, (Instr.checkKey b (n + 1) 86 (P k)).run Tryd.prog w = .ok () w := fun n => by
    unfold Instr.checkKey
    simp [run_underlying uP]
  exact h 9999
theorem split_at {l : List (Nat × Int)} {k : Nat} (h : k ∈ l.map (·.1)) (hn : (l.map (·.1)).Nodup) : ∃ l1 n l2, l = l1 ++ (k, n) :: l2 ∧ k ∉ l1.map (·.1) ∧ k ∉ l2.map (·.1) := by
  obtain ⟨p, hp, rfl⟩ := List.mem_map.1 h
  obtain ⟨l1, l2, rfl⟩ := List.append_of_mem hp
  rw [List.map_append, List.map_cons, List.nodup_append, List.nodup_cons] at hn
  exact ⟨l1, p.2, l2, rfl, fun hm => hn.2.2 _ hm _ List.mem_cons_self rfl, hn.2.1.1⟩
theorem GrowAt.look (h : GrowAt w m S g) (hS : ∀ b, S b → IsC w b) {k : Nat} (hk : IsC w k) : (Instr.lookup 84 (.map (some m)) (P k) false).run Tryd.prog w = .ok (.int .i64 (g k)) w := by
  obtain ⟨es, clock, l, hb, he, hnd, hlS, hg, hz⟩ := h
  have hf := findP hk es.toList l he (fun p hp => hS _ (hlS p hp))
  by_cases hin : k ∈ l.map (·.1)
  · obtain ⟨l1, n, l2, e, h1, h2⟩ := split_at hin hnd
    have hr := hf.2 l1 n l2 e h1
    have hgk : g k = n := hg (k, n) (by rw [e]; simp)
    rw [hgk]
    simp [Instr.lookup, run_underlying Tryd.underlying84, MapKept.run_getObj_map hb, ckP, hr]
  · have hr := hf.1 hin
    rw [hz k hin]
    simp [Instr.lookup, run_underlying Tryd.underlying84, MapKept.run_getObj_map hb, ckP, hr]
theorem modify_at {α : Type} (f : α → α) : ∀ (l1 : List α) (e : α) (l2 : List α), (l1 ++ e :: l2).modify l1.length f = l1 ++ f e :: l2
  | [], e, l2 => by simp
  | x :: l1, e, l2 => by simp [modify_at f l1 e l2]
theorem GrowAt.store (h : GrowAt w m S g) (hS : ∀ b, S b → IsC w b) {k : Nat} (hk : S k) (v : Int) : ∃ w', (Instr.mapUpdate 84 (.map (some m)) (P k) (.int .i64 v)).run Tryd.prog w = .ok () w' ∧ GrowAt w' m S (fun b => if b = k then v else g b) ∧ w.mapTurned w' m := by
  obtain ⟨es, clock, l, hb, he, hnd, hlS, hg, hz⟩ := h
  have hf := findP (hS k hk) es.toList l he (fun p hp => hS _ (hlS p hp))
  have hlt := (Array.getElem?_eq_some_iff.1 hb).1
  by_cases hin : k ∈ l.map (·.1)
  · obtain ⟨l1, n, l2, e, h1, h2⟩ := split_at hin hnd
    have hr := hf.2 l1 n l2 e h1
    rw [e, List.map_append, List.map_cons] at he
    obtain ⟨e1, r1, hes, m1, hr1⟩ := List.map_eq_append_iff.1 he
    obtain ⟨e0, e2, hr2, m0, m2⟩ := List.map_eq_cons_iff.1 hr1
    subst hr2
    have hlen : e1.length = l1.length := by have := congrArg List.length m1; simpa using this
    have hk0 : e0.key = P k := congrArg Prod.fst m0
    have hj : es[l1.length]? = some e0 := by rw [← Array.getElem?_toList, hes, List.getElem?_append_right (by omega), hlen, Nat.sub_self]; rfl
    have hks : (Instr.keyThatStays (P k) (P k)).run Tryd.prog w = .ok (P k) w := by simp [Instr.keyThatStays, Instr.sameBits]
    refine ⟨_, ?_, ⟨es.modify l1.length (fun e => { e with key := P k, val := .int .i64 v }), clock, l1 ++ (k, v) :: l2, ?_, ?_, ?_, ?_, ?_, ?_⟩, es, clock, es.modify l1.length (fun e => { e with key := P k, val := .int .i64 v }), clock, hb, rfl⟩
    · simp [Instr.mapUpdate, run_underlying Tryd.underlying84, MapKept.run_getObj_map hb, ckP, hr, hj, hk0, hks, MapKept.run_setObj_map _ hb, setBlock]
    · simp [setBlock, hlt]
    · rw [Array.toList_modify, hes, ← hlen, modify_at, List.map_append, List.map_cons, m1, m2, List.map_append, List.map_cons]
      rfl
    · rw [e] at hnd
      simpa using hnd
    · intro p hp
      rcases List.mem_append.1 hp with hp | hp
      · exact hlS p (by rw [e]; exact List.mem_append_left _ hp)
      · rcases List.mem_cons.1 hp with rfl | hp
        · exact hk
        · exact hlS p (by rw [e]; exact List.mem_append_right _ (List.mem_cons_of_mem _ hp))
    · intro p hp
      rcases List.mem_append.1 hp with hp | hp
      · show (if p.1 = k then v else g p.1) = p.2
        rw [if_neg (fun e3 : p.1 = k => h1 (by rw [← e3]; exact List.mem_map_of_mem hp))]
        exact hg p (by rw [e]; exact List.mem_append_left _ hp)
      · rcases List.mem_cons.1 hp with rfl | hp
        · exact if_pos rfl
        · show (if p.1 = k then v else g p.1) = p.2
          rw [if_neg (fun e3 : p.1 = k => h2 (by rw [← e3]; exact List.mem_map_of_mem hp))]
          exact hg p (by rw [e]; exact List.mem_append_right _ (List.mem_cons_of_mem _ hp))
    · intro b hbn
      simp only [List.map_append, List.map_cons, List.mem_append, List.mem_cons, not_or] at hbn
      show (if b = k then v else g b) = 0
      rw [if_neg hbn.2.1]
      exact hz b (by rw [e]; simp only [List.map_append, List.map_cons, List.mem_append, List.mem_cons, not_or]; exact hbn)
  · have hr := hf.1 hin
    refine ⟨_, ?_, ⟨es.push ⟨P k, .int .i64 v, clock⟩, clock + 1, l ++ [(k, v)], ?_, ?_, ?_, ?_, ?_, ?_⟩, es, clock, es.push ⟨P k, .int .i64 v, clock⟩, clock + 1, hb, rfl⟩
    · simp [Instr.mapUpdate, run_underlying Tryd.underlying84, MapKept.run_getObj_map hb, ckP, hr, MapKept.run_setObj_map _ hb, setBlock]
    · simp [setBlock, hlt]
    · rw [Array.toList_push, List.map_append, he, List.map_append]
      rfl
    · rw [List.map_append, List.nodup_append]
      exact ⟨hnd, by simp, fun a ha b hb2 e2 => hin (by rw [← (show b = k by simpa using hb2), ← e2]; exact ha)⟩
    · intro p hp
      rcases List.mem_append.1 hp with hp | hp
      · exact hlS p hp
      · rw [List.mem_singleton.1 hp]; exact hk
    · intro p hp
      rcases List.mem_append.1 hp with hp | hp
      · show (if p.1 = k then v else g p.1) = p.2
        rw [if_neg (fun e3 : p.1 = k => hin (by rw [← e3]; exact List.mem_map_of_mem hp))]
        exact hg p hp
      · rw [List.mem_singleton.1 hp]; exact if_pos rfl
    · intro b hbn
      simp only [List.map_append, List.map_cons, List.map_nil, List.mem_append, List.mem_singleton, not_or] at hbn
      show (if b = k then v else g b) = 0
      rw [if_neg hbn.2]
      exact hz b hbn.1
end
end Go.Proofs.YthlmbgaipbjbhaaDoor.L
end
section
namespace Go.Proofs.YthlmbgaipbjbhaaDoor.L
open Go.RowKit Go.Lib Go.Maps Go.ChangeMaps
open Go.Proofs.YthlmbgaipbjbhaaDoorW.PrintWords Go.Proofs.YthlmbgaipbjbhaaDoorW.PrintLast Go.Proofs.YthlmbgaipbjbhaaDoorW.PrintMore
section
variable {w : World} {m : Nat} {S : Nat → Prop} {g : Nat → Int}
theorem IsC.keep {w' : World} {b : Nat} (h : IsC w b) (hk : w'.heap[b]? = w.heap[b]?) : IsC w' b := by
  obtain ⟨c, t, h⟩ := h
  exact ⟨c, t, hk.trans h⟩
theorem IsC.lt {b : Nat} (h : IsC w b) : b < w.heap.size := by
  obtain ⟨c, t, h⟩ := h
  exact lt_of h
def addG (g : Nat → Int) (f : Nat) (k : Int) : Nat → Int := fun b => if b = f then g f + k else g b
set_option maxHeartbeats 4000000 in
set_option maxRecDepth 100000 in
theorem grow_calls (hG : GrowAt w m S g) (hS : ∀ b, S b → IsC w b) (sb : Nat) (hsb : w.heap[sb]? = some (.cells #[.map (some m)] 84 (0, 0))) (f : Nat) (hf : S f) (n k : Int) (h0 : 0 ≤ g f + k) (h1 : g f + k < 4611686018427387904) :
    Calls Tryd.prog 39 #[.agg #[P f, .int .i64 n, .nilFunc], .int .i64 k, P sb] w fun e w' => e = .returned (.tuple #[]) ∧ GrowAt w' m S (addG g f k) ∧ Fr [m] w w' := by
  have ho : ∀ b, b < w.heap.size → (w.alloc (.cells #[P f, .int .i64 n, .nilFunc] 89)).heap[b]? = w.heap[b]? := fun b hb => Below.heap_alloc w _ b hb
  have G1 : GrowAt (w.alloc (.cells #[P f, .int .i64 n, .nilFunc] 89)) m S g := hG.keep (ho _ hG.lt)
  have S1 : ∀ b, S b → IsC (w.alloc (.cells #[P f, .int .i64 n, .nilFunc] 89)) b := fun b hb => (hS b hb).keep (ho _ (hS b hb).lt)
  have el := G1.look S1 (S1 f hf)
  obtain ⟨w2, em, hg2, ht2⟩ := G1.store S1 hf (g f + k)
  have k1 : (w.alloc (.cells #[P f, .int .i64 n, .nilFunc] 89)).cell? ⟨sb, 0, none⟩ = some (.map (some m)) := (cell_of ((ho _ (lt_of hsb)).trans hsb) 0).trans rfl
  have HG2 := hid hg2
  have HF := hid ((Fr.alloc [m] w _).trans (Fr.turned ht2 (List.mem_singleton.2 rfl)) (fun _ hk => .inl hk))
  have hz : wrap64 (g f + k) = g f + k := by unfold wrap64; omega
  have hz2 : IntKind.i64.wrap (g f + k) = g f + k := by rw [IntKind.wrap_i64]; omega
  clear ho G1 S1 hg2 ht2 hG hS hsb hf
  go_enter Tryd.func39, Tryd.ntmps39
  go_wp2
  go_end0
  exact ⟨rfl, HG2.out, HF.out⟩
end
end Go.Proofs.YthlmbgaipbjbhaaDoor.L
end
section
namespace Go.Proofs.YthlmbgaipbjbhaaDoor.L
open Go.RowKit Go.Lib Go.Maps Go.ChangeMaps
open Go.Proofs.YthlmbgaipbjbhaaDoorW.PrintWords Go.Proofs.YthlmbgaipbjbhaaDoorW.PrintLast Go.Proofs.YthlmbgaipbjbhaaDoorW.PrintMore
def Ac.may : Ac → Names → Prop
  | .move s _ _ _, d => (d s).isSome = true
  | _, _ => True
def dirU (keep : Int) (l : List Ac) (d0 : Names) : Nat → Names
  | 0 => d0
  | k + 1 => match l[k]? with
    | some a => if (k : Int) < keep then a.app (dirU keep l d0 k) else dirU keep l d0 k
    | none => dirU keep l d0 k
def acG (keep torn : Int) (k : Nat) (a : Ac) (g : Nat → Int) : Nat → Int :=
  match a with
  | .grow f n => if (k : Int) < keep then addG g f n else if (k : Int) = max keep 0 then addG g f (min n (max torn 0)) else g
  | _ => g
def growU (keep torn : Int) (l : List Ac) : Nat → Nat → Int
  | 0 => fun _ => 0
  | k + 1 => match l[k]? with
    | some a => acG keep torn k a (growU keep torn l k)
    | none => growU keep torn l k
theorem dirU_step {keep : Int} {l : List Ac} {d0 : Names} {k : Nat} (h : k < l.length) : dirU keep l d0 (k + 1) = if (k : Int) < keep then l[k].app (dirU keep l d0 k) else dirU keep l d0 k := by
  show (match l[k]? with | some a => _ | none => _) = _
  rw [List.getElem?_eq_getElem h]
theorem growU_step {keep torn : Int} {l : List Ac} {k : Nat} (h : k < l.length) : growU keep torn l (k + 1) = acG keep torn k l[k] (growU keep torn l k) := by
  show (match l[k]? with | some a => _ | none => _) = _
  rw [List.getElem?_eq_getElem h]
theorem ac_kinds (a : Ac) : (∃ f n, a = .grow f n) ∨ (∃ s f b1 b2, a = .make s f b1 b2) ∨ (∃ s t b1 b2, a = .move s t b1 b2) ∨ ∃ s b1, a = .gone s b1 := by
  cases a with
  | grow f n => exact .inl ⟨f, n, rfl⟩
  | make s f b1 b2 => exact .inr (.inl ⟨s, f, b1, b2, rfl⟩)
  | move s t b1 b2 => exact .inr (.inr (.inl ⟨s, t, b1, b2, rfl⟩))
  | gone s b1 => exact .inr (.inr (.inr ⟨s, b1, rfl⟩))
structure Round (w wr : World) (D : Dk) (keep torn : Int) (gm sb mc kk : Nat) : Prop where
  dir : DirAt wr mc (D.n + kk) (dirU keep D.loose D.sure kk)
  grow : GrowAt wr gm (fun b => ∃ f ∈ D.fs, f.blk = b) (growU keep torn D.loose kk)
  box : wr.heap[sb]? = some (.cells #[.map (some gm)] 84 (0, 0))
  below : Below w.heap.size w wr
section
variable {w wr w2 : World} {D : Dk} {keep torn : Int} {gm sb mc kk : Nat}
theorem Round.new (h : Round w wr D keep torn gm sb mc kk) (f : Below wr.heap.size wr w2) : Round w w2 D keep torn gm sb mc kk :=
  ⟨h.dir.keep (f.block _ h.dir.lt), h.grow.keep (f.block _ h.grow.lt), (f.block _ (lt_of h.box)).trans h.box, h.below.trans (f.mono h.below.size)⟩
theorem Round.skip (h : Round w wr D keep torn gm sb mc kk) (hd : dirU keep D.loose D.sure (kk + 1) = dirU keep D.loose D.sure kk) (hg : growU keep torn D.loose (kk + 1) = growU keep torn D.loose kk) : Round w wr D keep torn gm sb mc (kk + 1) :=
  ⟨by rw [hd]; exact h.dir.mono (by omega), by rw [hg]; exact h.grow, h.box, h.below⟩
theorem Round.grown (h : Round w wr D keep torn gm sb mc kk) (hd : dirU keep D.loose D.sure (kk + 1) = dirU keep D.loose D.sure kk) {g : Nat → Int} (hg : growU keep torn D.loose (kk + 1) = g) (hga : GrowAt w2 gm (fun b => ∃ f ∈ D.fs, f.blk = b) g) (hf : Fr [gm] wr w2) (h1 : w.heap.size ≤ gm) (h2 : mc ≠ gm) (h3 : sb ≠ gm) : Round w w2 D keep torn gm sb mc (kk + 1) :=
  ⟨by rw [hd]; exact (h.dir.keep (hf.keep _ h.dir.lt (by simpa using h2))).mono (by omega), by rw [hg]; exact hga, (hf.keep _ (lt_of h.box) (by simpa using h3)).trans h.box, h.below.trans (hf.below h.below.size (fun k hk => by rw [List.mem_singleton.1 hk]; exact h1))⟩
theorem Round.turned (h : Round w wr D keep torn gm sb mc kk) {d : Names} (hd : dirU keep D.loose D.sure (kk + 1) = d) (hg : growU keep torn D.loose (kk + 1) = growU keep torn D.loose kk) (hda : DirAt w2 mc (D.n + kk + 1) d) (hf : Fr [mc] wr w2) (h1 : w.heap.size ≤ mc) (h2 : gm ≠ mc) (h3 : sb ≠ mc) : Round w w2 D keep torn gm sb mc (kk + 1) :=
  ⟨by rw [hd]; exact hda.mono (by omega), by rw [hg]; exact h.grow.keep (hf.keep _ h.grow.lt (by simpa using h2)), (hf.keep _ (lt_of h.box) (by simpa using h3)).trans h.box, h.below.trans (hf.below h.below.size (fun k hk => by rw [List.mem_singleton.1 hk]; exact h1))⟩
theorem Round.call (h : Round w wr D keep torn gm sb mc kk) (hD : DkAt w D) {f : Nat} (hf : ∃ x ∈ D.fs, x.blk = f) (n k : Int) (h0 : 0 ≤ growU keep torn D.loose kk f + k) (h1 : growU keep torn D.loose kk f + k < 4611686018427387904) :
    Calls Tryd.prog 39 #[.agg #[P f, .int .i64 n, .nilFunc], .int .i64 k, P sb] wr fun e w' => e = .returned (.tuple #[]) ∧ GrowAt w' gm (fun b => ∃ f ∈ D.fs, f.blk = b) (addG (growU keep torn D.loose kk) f k) ∧ Fr [gm] wr w' :=
  grow_calls h.grow (fun b hb => by
    obtain ⟨x, hx, rfl⟩ := hb
    exact ⟨_, _, ((hD.new (Fr.of_below h.below [])).files x hx).cell⟩) sb h.box f hf n k h0 h1
theorem Round.make (h : Round w wr D keep torn gm sb mc kk) (hD : DkAt w D) {s : ByteArray} {f b1 b2 : Nat} (hin : Ac.make s f b1 b2 ∈ D.loose) (hn : D.n + kk < maxLen) :
    Calls Tryd.prog 66 #[.map (some mc), P b1, P b2] wr fun e w' => e = .returned (.tuple #[]) ∧ DirAt w' mc (D.n + kk + 1) ((Ac.make s f b1 b2).app (dirU keep D.loose D.sure kk)) ∧ Fr [mc] wr w' :=
  do_make s f b1 b2 ((hD.boxed _ hin).keep (fun k _ hlt => h.below.block k hlt)) h.dir hn
theorem Round.gone (h : Round w wr D keep torn gm sb mc kk) (hD : DkAt w D) {s : ByteArray} {b1 : Nat} (hin : Ac.gone s b1 ∈ D.loose) :
    Calls Tryd.prog 70 #[.map (some mc), P b1] wr fun e w' => e = .returned (.tuple #[]) ∧ DirAt w' mc (D.n + kk + 1) ((Ac.gone s b1).app (dirU keep D.loose D.sure kk)) ∧ Fr [mc] wr w' :=
  do_gone s b1 ((hD.boxed _ hin).keep (fun k _ hlt => h.below.block k hlt)) h.dir
theorem Round.move (h : Round w wr D keep torn gm sb mc kk) (hD : DkAt w D) {s t : ByteArray} {b1 b2 : Nat} (hin : Ac.move s t b1 b2 ∈ D.loose) (hn : D.n + kk < maxLen) (hm : (Ac.move s t b1 b2).may (dirU keep D.loose D.sure kk)) (h1 : w.heap.size ≤ mc) :
    Calls Tryd.prog 71 #[.map (some mc), P b1, P b2] wr fun e w' => e = .returned (.tuple #[]) ∧ DirAt w' mc (D.n + kk + 1) ((Ac.move s t b1 b2).app (dirU keep D.loose D.sure kk)) ∧ Fr [mc] wr w' := by
  obtain ⟨fb, hfb⟩ := Option.isSome_iff_exists.1 (show ((dirU keep D.loose D.sure kk) s).isSome = true from hm)
  have hb := hD.boxed _ hin
  exact do_move s t b1 b2 (hb.keep (fun k _ hlt => h.below.block k hlt)) h.dir hn fb hfb (fun e => by have := hb.lt b1 (by simp [bxs]); omega)
end
theorem ne_nil (w : World) (a : Addr) : (binOp .neq 86 (.pointer (some a)) (.pointer none)).run Tryd.prog w = .ok (.bool true) w := by
  have h : ∀ d : Nat, (Op.equalIn (d + 1) 86 (.pointer (some a)) (.pointer none)).run Tryd.prog w = .ok false w := fun d => by
    simp [Op.equalIn, run_underlying uP]
  simp only [binOp]
  simp [Op.equal, Op.maxDepth, h 9999]
theorem nil_nil (w : World) : (binOp .neq 86 (.pointer none) (.pointer none)).run Tryd.prog w = .ok (.bool false) w := by
  have h : ∀ d : Nat, (Op.equalIn (d + 1) 86 (.pointer none) (.pointer none)).run Tryd.prog w = .ok true w := fun d => by
    simp [Op.equalIn, run_underlying uP]
  simp only [binOp]
  simp [Op.equal, Op.maxDepth, h 9999]
theorem d_nil (w : World) (a : Addr) : (binOp .eql 23 (.pointer (some a)) (.pointer none)).run Tryd.prog w = .ok (.bool false) w := by
  have hu : Tryd.prog.underlying 23 = some (.pointer 70) := by kernel_rfl
  have h : ∀ d : Nat, (Op.equalIn (d + 1) 23 (.pointer (some a)) (.pointer none)).run Tryd.prog w = .ok false w := fun d => by
    simp [Op.equalIn, run_underlying hu]
  simp only [binOp]
  simp [Op.equal, Op.maxDepth, h 9999]
end Go.Proofs.YthlmbgaipbjbhaaDoor.L
end
