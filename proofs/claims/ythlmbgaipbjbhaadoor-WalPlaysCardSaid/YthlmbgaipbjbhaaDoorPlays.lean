/- WalPlays walked. -/
import Derived.Test.YthlmbgaipbjbhaaDoorTellsA
import Derived.Test.YthlmbgaipbjbhaaDoorShow
import Derived.Deep.LoopGhost
namespace Go.Proofs.YthlmbgaipbjbhaaDoor.L
open Go.RowKit Go.Lib Go.Maps Go.Proofs.YthlmbgaipbjbhaaDoor.P
open Go.Proofs.YthlmbgaipbjbhaaDoorW.PrintWords Go.Proofs.YthlmbgaipbjbhaaDoorW.PrintLast Go.Proofs.YthlmbgaipbjbhaaDoorW.PrintMore
set_option linter.unusedVariables false
set_option linter.unusedSimpArgs false
theorem plays_8 {M n : Nat} (h : M ≤ 16 * n) (hn : n < 60) : M + 8 < 1048576 := by omega
theorem plays_60 {M n : Nat} (h : M ≤ 16 * n) (hn : n ≤ 60) : M < 1152921504606846976 ∧ M + M + 8 < 1048576 := by omega
theorem plays_gl {g n : Nat} (h : g ≤ n) (hn : n ≤ 60) : g < 1048576 := by omega
theorem plays_g32 {g n : Nat} (h : g ≤ n) (hn : n < 60) : g < 4294967296 := by omega
theorem plays_f {f n : Nat} (h : f ≤ 5 * n) (hn : n < 60) : f < 4611686018427387904 := by omega
theorem plays_z {n : Nat} (h : n < 60) : (n : Int) < 60 := by omega
theorem plays_nz {n : Nat} (h : ¬ n < 60) : ¬ (n : Int) < 60 := by omega
theorem plays_j {n : Nat} (hn : n < 60) : wrap64 ((n : Int) + 1) = ((n + 1 : Nat) : Int) := by unfold wrap64; omega
theorem plays_me {n g : Nat} (h : 60 - n ≤ g) (hn : n < 60) : 60 - (n + 1) < g := by omega
theorem plays_m16 {M n : Nat} (h : M ≤ 16 * n) : M + 16 ≤ 16 * (n + 1) ∧ M + 2 ≤ 16 * (n + 1) ∧ M ≤ 16 * (n + 1) := by omega
theorem plays_lay {M n : Nat} (h : M ≤ 16 * n) (hn : n < 60) : M + 40 < 1048576 := by omega
theorem plays_e {e g n : Nat} (h : e ≤ g * 7277) (hg : g ≤ n) (hn : n < 60) : e + 7277 ≤ 4194304 := by omega
theorem plays_n {M n : Nat} (h : M ≤ 16 * n) (hn : n < 60) : M + 16 < 1152921504606846976 ∧ (M + 16) + (M + 16) + 8 < 1048576 := by omega
theorem plays_gl1 {g n : Nat} (h : g ≤ n + 1) (hn : n < 60) : g < 1048576 := by omega
theorem plays_mg {m g n : Nat} (h : m ≤ g * 2200000) (hg : g ≤ n + 1) (hn : n < 60) : m ≤ 140000000 := by omega
theorem plays_w30 {g n : Nat} (h : g ≤ n + 1) (hn : n < 60) : wrap64 (30 * (g : Int)) = ((30 * g : Nat) : Int) := by unfold wrap64; omega
theorem plays_w100 {g n : Nat} (h : g ≤ n + 1) (hn : n < 60) : wrap64 (100 + ((30 * g : Nat) : Int)) = ((100 + 30 * g : Nat) : Int) := by unfold wrap64; omega
theorem plays_w10 {v : Nat} (h : v ≤ 150000000) : wrap64 ((v : Int) + 10) = ((v + 10 : Nat) : Int) := by unfold wrap64; omega
theorem plays_w11 {v z : Nat} (h : v ≤ 150000000) (hz : z < 4294967296) : wrap64 (((v + 10 : Nat) : Int) + (z : Int)) = ((v + 10 + z : Nat) : Int) := by unfold wrap64; omega
theorem plays_sum {V B S z : Nat} (h1 : V = B + S) (hV : V ≤ 150000000) (hz : z < 4294967296) : wrap64 ((V : Int) + 10 + (z : Int)) = ((B + (S + (10 + z)) : Nat) : Int) := by unfold wrap64; omega
theorem plays_jn {j g : Nat} (h : j < g) (hg : g ≤ 8192) : wrap64 ((j : Int) + 1) = ((j + 1 : Nat) : Int) := by unfold wrap64; omega
theorem plays_i {j g : Nat} (h : j < g) (hg : g ≤ 61) : wrap64 ((j : Int) + 1) = ((j + 1 : Nat) : Int) := by unfold wrap64; omega
theorem plays_dec {j g k : Nat} (h : g - j ≤ k) (hj : j < g) : g - (j + 1) < k := by omega
theorem plays_f5 {f n : Nat} (h : f ≤ 5 * n) : f ≤ 5 * (n + 1) := by omega
theorem plays_ops {N B : Nat} {D : Dk} (g : Good N B D) (hN : N + 8 < 1048576) {b : Int} (h1 : D.ops ≤ b) (h2 : b ≤ D.ops + 1) : wrap64 (b - D.ops) = b - D.ops ∧ ¬ 12 < b - D.ops := by
  unfold wrap64
  constructor <;> omega
theorem R_ints {w : World} {bs : Nat} {own : List Nat} {A : Option Addr} {l : List Int} {c : Nat} (h : Kd.R kI 3 w bs (fun j => j ∉ own) (.slice A l.length c) l) : Kd.C kI w A l.length l := by
  obtain ⟨a, b, he, _, hc⟩ := Kd.R_reads h
  injection he with he _ _
  rw [he]
  exact hc
theorem Px.start {w0 w : World} {k x : Nat} {D : Dk} (dw : Dw w0 w 0 4194304 D) (lw : Lw w0 w D k nLog []) (hx : w.heap[x]? = some (wsObj D.d k (.slice none 0 0) (.slice none 0 0) false)) (hg : w0.heap.size ≤ x) (ho : x ∉ k :: D.own) (hon : ∀ P : ByteArray → Prop, Only P D) (c : Calm 12582912 D) : Px w0 w 0 D k x (.slice none 0 0) (.slice none 0 0) false [] [] [] :=
  ⟨dw, hx, hg, ho, lw.lt, lw.ge, hon _, fun j hj => by rw [c.fails j] at hj; exact absurd hj (by decide), fun _ => c.room, c.cut, c.off, Wr.nil _ _, Kd.R_nil _ _ _ _ _⟩
theorem box_cells' {w : World} {z : Nat} {q : Op} (h : w.heap[z]? = some (boxObj q)) : w.cell? ⟨z, 0, none⟩ = some (.int .i64 q.kind) ∧ w.cell? ⟨z, 1, none⟩ = some (.slice q.at_ q.l.length q.cap) ∧ w.cell? ⟨z, 2, none⟩ = some (.int .i64 q.n) ∧ w.cell? ⟨z, 3, none⟩ = some (.int .i64 q.torn) :=
  ⟨(cell_of h 0).trans rfl, (cell_of h 1).trans rfl, (cell_of h 2).trans rfl, (cell_of h 3).trans rfl⟩
def gv (t : Array Value) (i : Nat) : Value := t.getD i undef
theorem frame_list (t : Array Value) (n : Nat) (h : t.size = n) : t = ((List.range n).map (gv t)).toArray := by
  apply Array.ext
  · simp [h]
  · intro i h1 h2
    simp [gv, h1]
theorem frame339 (t : Array Value) (h : t.size = 339) : t = #[gv t 0, gv t 1, gv t 2, gv t 3, gv t 4, gv t 5, gv t 6, gv t 7, gv t 8, gv t 9, gv t 10, gv t 11, gv t 12, gv t 13, gv t 14, gv t 15, gv t 16, gv t 17, gv t 18, gv t 19, gv t 20, gv t 21, gv t 22, gv t 23, gv t 24, gv t 25, gv t 26, gv t 27, gv t 28, gv t 29, gv t 30, gv t 31, gv t 32, gv t 33, gv t 34, gv t 35, gv t 36, gv t 37, gv t 38, gv t 39, gv t 40, gv t 41, gv t 42, gv t 43, gv t 44, gv t 45, gv t 46, gv t 47, gv t 48, gv t 49, gv t 50, gv t 51, gv t 52, gv t 53, gv t 54, gv t 55, gv t 56, gv t 57, gv t 58, gv t 59, gv t 60, gv t 61, gv t 62, gv t 63, gv t 64, gv t 65, gv t 66, gv t 67, gv t 68, gv t 69, gv t 70, gv t 71, gv t 72, gv t 73, gv t 74, gv t 75, gv t 76, gv t 77, gv t 78, gv t 79, gv t 80, gv t 81, gv t 82, gv t 83, gv t 84, gv t 85, gv t 86, gv t 87, gv t 88, gv t 89, gv t 90, gv t 91, gv t 92, gv t 93, gv t 94, gv t 95, gv t 96, gv t 97, gv t 98, gv t 99, gv t 100, gv t 101, gv t 102, gv t 103, gv t 104, gv t 105, gv t 106, gv t 107, gv t 108, gv t 109, gv t 110, gv t 111, gv t 112, gv t 113, gv t 114, gv t 115, gv t 116, gv t 117, gv t 118, gv t 119, gv t 120, gv t 121, gv t 122, gv t 123, gv t 124, gv t 125, gv t 126, gv t 127, gv t 128, gv t 129, gv t 130, gv t 131, gv t 132, gv t 133, gv t 134, gv t 135, gv t 136, gv t 137, gv t 138, gv t 139, gv t 140, gv t 141, gv t 142, gv t 143, gv t 144, gv t 145, gv t 146, gv t 147, gv t 148, gv t 149, gv t 150, gv t 151, gv t 152, gv t 153, gv t 154, gv t 155, gv t 156, gv t 157, gv t 158, gv t 159, gv t 160, gv t 161, gv t 162, gv t 163, gv t 164, gv t 165, gv t 166, gv t 167, gv t 168, gv t 169, gv t 170, gv t 171, gv t 172, gv t 173, gv t 174, gv t 175, gv t 176, gv t 177, gv t 178, gv t 179, gv t 180, gv t 181, gv t 182, gv t 183, gv t 184, gv t 185, gv t 186, gv t 187, gv t 188, gv t 189, gv t 190, gv t 191, gv t 192, gv t 193, gv t 194, gv t 195, gv t 196, gv t 197, gv t 198, gv t 199, gv t 200, gv t 201, gv t 202, gv t 203, gv t 204, gv t 205, gv t 206, gv t 207, gv t 208, gv t 209, gv t 210, gv t 211, gv t 212, gv t 213, gv t 214, gv t 215, gv t 216, gv t 217, gv t 218, gv t 219, gv t 220, gv t 221, gv t 222, gv t 223, gv t 224, gv t 225, gv t 226, gv t 227, gv t 228, gv t 229, gv t 230, gv t 231, gv t 232, gv t 233, gv t 234, gv t 235, gv t 236, gv t 237, gv t 238, gv t 239, gv t 240, gv t 241, gv t 242, gv t 243, gv t 244, gv t 245, gv t 246, gv t 247, gv t 248, gv t 249, gv t 250, gv t 251, gv t 252, gv t 253, gv t 254, gv t 255, gv t 256, gv t 257, gv t 258, gv t 259, gv t 260, gv t 261, gv t 262, gv t 263, gv t 264, gv t 265, gv t 266, gv t 267, gv t 268, gv t 269, gv t 270, gv t 271, gv t 272, gv t 273, gv t 274, gv t 275, gv t 276, gv t 277, gv t 278, gv t 279, gv t 280, gv t 281, gv t 282, gv t 283, gv t 284, gv t 285, gv t 286, gv t 287, gv t 288, gv t 289, gv t 290, gv t 291, gv t 292, gv t 293, gv t 294, gv t 295, gv t 296, gv t 297, gv t 298, gv t 299, gv t 300, gv t 301, gv t 302, gv t 303, gv t 304, gv t 305, gv t 306, gv t 307, gv t 308, gv t 309, gv t 310, gv t 311, gv t 312, gv t 313, gv t 314, gv t 315, gv t 316, gv t 317, gv t 318, gv t 319, gv t 320, gv t 321, gv t 322, gv t 323, gv t 324, gv t 325, gv t 326, gv t 327, gv t 328, gv t 329, gv t 330, gv t 331, gv t 332, gv t 333, gv t 334, gv t 335, gv t 336, gv t 337, gv t 338] := (frame_list t 339 h).trans (by kernel_rfl)
def RoundAt (w0 : World) (A : Option Addr) (n cap : Nat) (keep torn : Int) (x : Nat) (gg : Nat) (a : Act) (wr : World) : Prop :=
  ∃ (nn M : Nat) (D : Dk) (k : Nat) (vg vf : Value) (t : Bool) (G : List (List ByteArray)) (F : List Int), nn ≤ 60 ∧ 60 - nn ≤ gg ∧ a.defers = [] ∧ a.tmps.size = 339 ∧ gv a.tmps 0 = .slice A n cap ∧ gv a.tmps 1 = .int .i64 keep ∧ gv a.tmps 2 = .int .i64 torn ∧ gv a.tmps 9 = P x ∧ gv a.tmps 11 = .int .i64 nn ∧ Hid (M ≤ 16 * nn) ∧ Hid (Px w0 wr M D k x vg vf t G F F) ∧ Hid (Lw w0 wr D k nLog G) ∧ Hid (G.length ≤ nn) ∧ Hid (F.length ≤ 5 * nn)
def FrameIs (A : Option Addr) (n cap : Nat) (keep torn : Int) (x nn : Nat) (a : Act) : Prop :=
  a.defers = [] ∧ a.tmps.size = 339 ∧ gv a.tmps 0 = .slice A n cap ∧ gv a.tmps 1 = .int .i64 keep ∧ gv a.tmps 2 = .int .i64 torn ∧ gv a.tmps 9 = P x ∧ gv a.tmps 11 = .int .i64 nn
def MostAt (A : Option Addr) (n cap : Nat) (keep torn : Int) (x nn : Nat) (G : List (List ByteArray)) (W : World) (gg : Nat) (a : Act) (wr : World) : Prop :=
  ∃ ii : Nat, ii ≤ G.length ∧ G.length - ii ≤ gg ∧ FrameIs A n cap keep torn x nn a ∧ gv a.tmps 28 = .int .i64 ((100 + 30 * G.length + mostG (G.take ii) : Nat) : Int) ∧ gv a.tmps 29 = .int .i64 ii ∧ wr = W
def MoreAt (A : Option Addr) (n cap : Nat) (keep torn : Int) (x nn ii B : Nat) (g : List ByteArray) (W : World) (gg : Nat) (a : Act) (wr : World) : Prop :=
  ∃ jj : Nat, jj ≤ g.length ∧ g.length - jj ≤ gg ∧ FrameIs A n cap keep torn x nn a ∧ gv a.tmps 28 = .int .i64 ((B + ((g.take jj).map fun s => 10 + s.size).sum : Nat) : Int) ∧ gv a.tmps 29 = .int .i64 ii ∧ gv a.tmps 30 = .int .i64 jj ∧ wr = W
def FailsAt (w0 : World) (A : Option Addr) (n cap : Nat) (keep torn : Int) (x nn M z : Nat) (p : Op) (k : Nat) (vg : Value) (t : Bool) (G : List (List ByteArray)) (ni : Int) (gg : Nat) (a : Act) (wr : World) : Prop :=
  ∃ (kk : Nat) (D : Dk) (vf : Value) (F : List Int), kk ≤ 5 ∧ 5 - kk ≤ gg ∧ FrameIs A n cap keep torn x nn a ∧ gv a.tmps 12 = P z ∧ gv a.tmps 18 = .int .i64 ni ∧ gv a.tmps 19 = .int .i64 kk ∧ Hid (Px w0 wr (M + kk) D k x vg vf t G F F) ∧ Hid (Lw w0 wr D k nLog G) ∧ Hid (F.length ≤ 5 * nn + kk) ∧ Hid (wr.heap[z]? = some (boxObj p)) ∧ Hid (z ∉ x :: k :: D.own)
def NamesAt (A : Option Addr) (n cap : Nat) (keep torn : Int) (x nn z : Nat) (AN : Option Addr) (ln cn : Nat) (W : World) (gg : Nat) (a : Act) (wr : World) : Prop :=
  ∃ (ii : Nat) (u : Int), ii ≤ ln ∧ ln - ii ≤ gg ∧ FrameIs A n cap keep torn x nn a ∧ gv a.tmps 12 = P z ∧ gv a.tmps 20 = .int .i64 u ∧ gv a.tmps 21 = .slice AN ln cn ∧ gv a.tmps 22 = .int .i64 ii ∧ Hid (Fr [] W wr)
theorem infoInt : (Tryd.prog.info? 3).map (fun i => (i.zero, i.size, i.bytes)) = some (some (.int .i64 0), 1, 8) := by kernel_rfl
theorem in2 {x d k j : Nat} {l : List Nat} (hd : d ∈ l) (hm : j ∈ [x, d]) : j ∈ x :: k :: l := by
  simp only [List.mem_cons, List.not_mem_nil, or_false] at hm
  rcases hm with e | e
  · rw [e]; exact List.mem_cons_self
  · rw [e]; exact List.mem_cons_of_mem _ (List.mem_cons_of_mem _ hd)
theorem kin2 {x d k : Nat} {l : List Nat} (h1 : x ∉ k :: l) (h2 : k ∉ l) (hd : d ∈ l) : k ∉ [x, d] := fun hm => by
  simp only [List.mem_cons, List.not_mem_nil, or_false] at hm
  rcases hm with e | e
  · exact h1 (by rw [e]; exact List.mem_cons_self)
  · exact h2 (by rw [e]; exact hd)
theorem plays_kk {k : Nat} {pt : Int} (h : (k : Int) ≤ pt) (hp : pt < 5) : k + 1 ≤ 5 := by omega
theorem plays_kd {k g : Nat} (h : 5 - k ≤ g) (hk : k + 1 ≤ 5) : 5 - (k + 1) < g := by omega
theorem plays_kn {M n k : Nat} (h : M ≤ 16 * n) (hn : n < 60) (hk : k ≤ 5) : M + k < 1048576 := by omega
theorem plays_kf {f n k : Nat} (h : f ≤ 5 * n + k) (hn : n < 60) (hk : k ≤ 5) : (f + 1) * 8 ≤ 140737488355328 := by omega
theorem plays_kf1 {f n k : Nat} (h : f ≤ 5 * n + k) : f + 1 ≤ 5 * n + (k + 1) := by omega
theorem plays_kw {k : Nat} (hk : k + 1 ≤ 5) : wrap64 ((k : Int) + 1) = ((k + 1 : Nat) : Int) := by unfold wrap64; omega
theorem plays_ke {M n k : Nat} (h : M ≤ 16 * n) (hk : k ≤ 5) : M + k ≤ 16 * (n + 1) := by omega
theorem plays_kfe {f n k : Nat} (h : f ≤ 5 * n + k) (hk : k ≤ 5) : f ≤ 5 * (n + 1) := by omega
theorem plays_nw {i l : Nat} (h : i < l) (hl : l ≤ 1048576) : wrap64 ((i : Int) + 1) = ((i + 1 : Nat) : Int) := by unfold wrap64; omega
theorem plays_mn {M n : Nat} (h : M ≤ 16 * n) (hn : n < 60) : M ≤ 1048576 := by omega
theorem wf_wrap (x : Int) : (Lit.int .i64 (wrap64 x)).wf = true := WalkArith.wf_i64 (by unfold wrap64; omega)
set_option maxHeartbeats 32000000 in
set_option maxRecDepth 100000 in
theorem plays_calls (w : World) (hL : Laid w) (A : Option Addr) (n cap : Nat) (Q : Nat → Op) (hA : OpsAt w A n Q) (keep torn : Int) :
    Calls Tryd.prog 7 #[.slice A n cap, .int .i64 keep, .int .i64 torn] w fun e w' => e = .returned (.bool true) ∧ Below w.heap.size w w' := by
  have HL := hid hL
  have HA := hid hA
  clear hL hA
  go_enter Tryd.func7, Tryd.ntmps7
  go_upto_region 2 with (go_at_call 8; refine (shown_calls w HL.out).mono ?_; rintro e w1 ⟨rfl, hb1⟩; have HB1 := hid hb1; clear hb1)
  go_upto_region 3 with (go_at_call 23; refine (none_calls w1).mono ?_; rintro e w2 ⟨rfl, hb2⟩; have HB2 := hid (HB1.out.trans (hb2.mono HB1.out.size)); clear hb2)
  go_upto_region 6 with (go_at_call 15; refine (begun_calls w w2 HB2.out).mono ?_; rintro e w3 ⟨x, k, D, rfl, hb3, dw3, lw3, hx3, hxg, hxo, hxb, hon, hcalm⟩; have HW := hid (Px.start dw3 lw3 hx3 hxg hxo hon hcalm); have HLW := hid lw3; clear hb3 dw3 lw3 hx3 hxg hxo hxb hon hcalm)
  go_wp2
  refine wp_loop_ghost_k (RoundAt w A n cap keep torn x) 60 ?atStart ?round
  case atStart => exact ⟨0, 0, D, k, _, _, false, [], [], Nat.zero_le _, Nat.le_refl _, rfl, rfl, rfl, rfl, rfl, rfl, rfl, hid (Nat.le_refl _), HW, HLW, hid (Nat.le_refl _), hid (Nat.le_refl _)⟩
  case round =>
    clear HW HLW HB1 HB2
    intro gk a wr hrel J K hJ hK
    obtain ⟨nn, M, D, k, vg, vf, t, G, F, hnn, hgn, hdf, hsz, h0, h1, h2, h9, h11, HM, HB0, HLW0, HG, HFL⟩ := hrel
    obtain ⟨tm, df⟩ := a
    have hdf' : df = [] := hdf
    subst hdf'
    have hfr := frame339 tm hsz
    have g0 : gv tm 0 = .slice A n cap := h0
    have g1 : gv tm 1 = .int .i64 keep := h1
    have g2 : gv tm 2 = .int .i64 torn := h2
    have g9 : gv tm 9 = P x := h9
    have g11 : gv tm 11 = .int .i64 nn := h11
    rw [g0, g1, g2, g9, g11] at hfr
    clear hdf hsz h0 h1 h2 h9 h11 g0 g1 g2 g9 g11
    rw [hfr]
    clear hfr
    obtain ⟨Ag, cg, rfl⟩ := Kd.R_slice HB0.out.row.1
    obtain ⟨Af, cf, rfl⟩ := Kd.R_slice HB0.out.frow
    by_cases hj1 : nn < n
    · have hj1z : (nn : Int) < (n : Int) := Int.ofNat_lt.2 hj1
      by_cases hj2 : nn < 60
      · have hj2z := plays_z hj2
        obtain ⟨b2, o2, rfl, hb2, hcells2⟩ := HA.out.there (Nat.lt_of_le_of_lt (Nat.zero_le _) hj1)
        have hop := hcells2 nn hj1
        have HOI := hid (HA.out.each nn hj1)
        clear hcells2
        generalize Q nn = p at HOI hop
        have e0 := (HB0.out.dw.bel.cell (p := ⟨b2, o2 + nn * 4, none⟩) hb2).trans hop.c0
        have e1 := (HB0.out.dw.bel.cell (p := ⟨b2, o2 + nn * 4 + 1, none⟩) hb2).trans hop.c1
        have e2 := (HB0.out.dw.bel.cell (p := ⟨b2, o2 + nn * 4 + 2, none⟩) hb2).trans hop.c2
        have e3 := (HB0.out.dw.bel.cell (p := ⟨b2, o2 + nn * 4 + 3, none⟩) hb2).trans hop.c3
        clear hop hb2
        have HP := hid (fun W => pick_calls p.kind 8 HOI.out.kind (by decide) W)
        have hpb := pick_bd p.kind 8 (by decide)
        generalize pickI p.kind 8 = pv at *
        go_upto_block 2 with (go_at_call 12; refine (HP.out _).mono ?_; rintro e w_ ⟨rfl, hww⟩; have hww2 := hww.symm; subst hww2)
        clear e0 e1 e2 e3 HP
        have HB := hid (HB0.out.new (Fr.alloc [] wr (boxObj p)))
        have HLW := hid (HLW0.out.new (Fr.alloc [] wr (boxObj p)))
        have HZ := hid (al_get wr (boxObj p))
        have HZO := hid (show wr.heap.size ∉ x :: k :: D.own from fun hm => Nat.lt_irrefl _ (HB0.out.olt _ hm))
        clear HB0 HLW0
        generalize wr.alloc (boxObj p) = wp at *
        generalize wr.heap.size = z at *
        have HKK := hid hj2
        have HGN := hid (And.intro hnn hgn)
        have hjz := plays_j hj2
        clear hj2 hj2z hj1 hj1z hnn hgn
        obtain ⟨of, hof1, hof2⟩ := HLW.out.firm
        have HFI := hid (And.intro hof1 hof2)
        clear hof1 hof2
        have p0 := HB.out.c0
        obtain ⟨z0, z1, z2, z3⟩ := box_cells' HZ.out
        by_cases h5 : pv = 5
        · subst h5
          clear hpb
          have HOP := hid (open_w HB.out.dw HL.out (plays_8 HM.out HKK.out) (by decide) wNameLog _ HFI.out.1 HFI.out.2 HB.out.row.2.1 (plays_gl HG.out (Nat.le_of_lt HKK.out)))
          have HOO := hid (ops_calls HB.out.dw.at_)
          go_upto_region 33 with (go_at_call 17; refine HOO.out.mono ?_; rintro e w_ ⟨rfl, hww⟩; have hww2 := hww.symm; subst hww2)
          go_upto_region 34 with (go_at_call 10; refine HOP.out.mono ?_; intro e w5 h5; obtain ⟨D5, hp5, hd5, hf5, ho5, hlo5, hhi5, hl5, ⟨k5, A5, c5, rfl, hm5, hr5, hk5, hk5g⟩ | ⟨rfl, hm5⟩⟩ := HB.out.of_open HLW.out h5 <;> (have HP5 := hid hp5; have HD5 := hid hd5; have HF5 := hid hf5; have HL5 := hid hl5; have HM5 := hid hm5; have HOW5 := hid ho5; have HLH := hid (plays_ops HB.out.dw.good (plays_8 HM.out HKK.out) hlo5 hhi5); clear h5 hp5 hd5 hf5 hl5 hm5 ho5 hlo5 hhi5) <;> (first | (have HR5 := hid hr5; have HK5 := hid hk5; have HKG := hid hk5g; clear hr5 hk5 hk5g) | skip))
          · clear HOP HOO p0
            have HMA := hid (may_calls HP5.out.dw.at_ x k (.slice Ag G.length cg) Af cf F t 0 D.ops HP5.out.obj (R_ints HP5.out.frow) (plays_f HFL.out HKK.out))
            rw [HM5.out] at HMA
            have hw12 := HLH.out.1
            have hle12 := HLH.out.2
            go_upto_region 35 with (go_at_call 24; refine HMA.out.mono ?_; rintro e w6 ⟨rfl, zz, hz⟩; have hz2 := hz.symm; subst hz2; have HPZ := hid (HP5.out.new (Fr.of_drawn ⟨zz, rfl⟩)); have HRZ := hid (HR5.out.new (Fr.of_drawn ⟨zz, rfl⟩)); have HKZ := hid (HK5.out.new (Fr.of_drawn ⟨zz, rfl⟩)); have FZ := hid (Fr.of_drawn ⟨zz, rfl⟩ : Fr [] w5 _))
            have p0 := HPZ.out.c0
            have p2 := HPZ.out.c2
            have HSA := hid (same_rows HRZ.out HPZ.out.row (plays_g32 HG.out HKK.out))
            rw [decide_eq_true (rfl : G = G)] at HSA
            generalize w5.drewN zz = wz at *
            go_upto_region 37 with (first
              | (go_at_call 14; refine HSA.out.mono ?_; rintro e w7 ⟨rfl, hd7⟩; have HPY := hid (HPZ.out.new (Fr.of_drawn hd7)); have HKY := hid (HKZ.out.new (Fr.of_drawn hd7)); have HRY := hid (HRZ.out.new (Fr.of_drawn hd7)); have FY := hid (FZ.out.trans (Fr.of_drawn (own := []) hd7) (fun j hj => by simp at hj)); clear hd7; have p0y := HPY.out.c0; have HOY := hid (ops_calls HPY.out.dw.at_))
              | (go_at_call 17; refine HOY.out.mono ?_; rintro e w_ ⟨rfl, hww⟩; have hww2 := hww.symm; subst hww2))
            clear p0 p2 hle12
            have p1 := HPY.out.c1
            have f1 := HPY.out.free 1
            have hn5 : ∀ j ∈ x :: k5 :: D5.own, j ∈ x :: k :: D.own ∨ wp.heap.size ≤ j := fun j hj => by
              rcases List.mem_cons.1 hj with e | hj
              · exact .inl (by rw [e]; exact List.mem_cons_self)
              · rcases List.mem_cons.1 hj with e | hj
                · exact .inr (by rw [e]; exact HKG.out)
                · exact .inl (List.mem_cons_of_mem _ (List.mem_cons_of_mem _ (HOW5.out j hj)))
            have HXK := hid (show x ≠ k5 from fun e => by have := HB.out.xlt; have := HKG.out; omega)
            have HRF := hid (I_to HB.out.frow (HF5.out.trans FY.out (fun j hj => by simp at hj)) (fun j hj => List.mem_cons_of_mem _ (List.mem_cons_of_mem _ hj)) hn5)
            have HRG := hid (HB.out.row.to (HF5.out.trans FY.out (fun j hj => by simp at hj)) (fun j hj => List.mem_cons_of_mem _ (List.mem_cons_of_mem _ hj)) hn5)
            clear hn5
            have HSL := hid (HPY.out.setl HKY.out HXK.out HRG.out HRF.out)
            have HLL := hid (HKY.out.fr HSL.out.2 (fun hm => HXK.out (List.mem_singleton.1 hm).symm))
            go_wp2
            refine Handed.intro (60 - (nn + 1)) (plays_me HGN.out.2 HKK.out) (hJ _ _ _ ?_)
            exact ⟨nn + 1, M + 2, D5, k5, _, _, t, _, F, HKK.out, Nat.le_refl _, rfl, rfl, rfl, rfl, rfl, rfl, (by first | rfl | (rw [hjz]; rfl) | (show Value.int .i64 _ = _; congr 1; omega)), hid (plays_m16 HM.out).2.1, hid HSL.out.1, HLL, hid (Nat.le_succ_of_le HG.out), hid (plays_f5 HFL.out)⟩
          · clear HOP HOO p0
            have HMA := hid (may_calls HP5.out.dw.at_ x k (.slice Ag G.length cg) Af cf F t 34 D.ops HP5.out.obj (R_ints HP5.out.frow) (plays_f HFL.out HKK.out))
            rw [HM5.out] at HMA
            have hw12 := HLH.out.1
            have hle12 := HLH.out.2
            go_upto_region 35 with (go_at_call 24; refine HMA.out.mono ?_; rintro e w6 ⟨rfl, zz, hz⟩; have hz2 := hz.symm; subst hz2; have HPZ := hid (HP5.out.new (Fr.of_drawn ⟨zz, rfl⟩)); have HKZ := hid (HL5.out.new (Fr.of_drawn ⟨zz, rfl⟩)))
            have p0 := HPZ.out.c0
            have HOY := hid (ops_calls HPZ.out.dw.at_)
            generalize w5.drewN zz = wz at *
            go_wp2_with (go_at_call 17; refine HOY.out.mono ?_; rintro e w_ ⟨rfl, hww⟩; have hww2 := hww.symm; subst hww2)
            refine Handed.intro (60 - (nn + 1)) (plays_me HGN.out.2 HKK.out) (hJ _ _ _ ?_)
            exact ⟨nn + 1, M + 2, D5, k, _, _, t, _, F, HKK.out, Nat.le_refl _, rfl, rfl, rfl, rfl, rfl, rfl, (by first | rfl | (rw [hjz]; rfl) | (show Value.int .i64 _ = _; congr 1; omega)), hid (plays_m16 HM.out).2.1, HPZ, HKZ, hid (Nat.le_succ_of_le HG.out), hid (plays_f5 HFL.out)⟩
        · have hb5 : (pv == 5) = false := beq_eq_false_iff_ne.2 h5
          by_cases h6 : pv = 6
          · subst h6
            clear hpb
            have HPT := hid (fun W => pick_calls p.torn 5 HOI.out.torn (by decide) W)
            have hptb := (pick_bd p.torn 5 (by decide)).2
            generalize pickI p.torn 5 = pt at *
            have HPB := hid hptb
            clear hptb
            have HPN := hid (fun W => pick_calls p.n 12 HOI.out.n (by decide) W)
            generalize pickI p.n 12 = pn at *
            have HBD := hid (HB.out.new (Fr.refl [] wp).drew)
            have HLD := hid (HLW.out.new (Fr.refl [] wp).drew)
            have HZD := hid (((Fr.refl [] wp).drew.keep z (lt_of HZ.out) (by simp)).trans HZ.out)
            have q0 := HBD.out.c0
            have q2 := (box_cells' HZD.out).2.2.1
            go_upto_region 40 with fail
            refine start_ (n := 10) (S := fun w' => w'.cell? ⟨x, 0, none⟩ = some (P D.d) ∧ w'.cell? ⟨z, 2, none⟩ = some (.int .i64 p.n)) (ds := []) #[false, false, false, false, false, false, false, false, false, false] (by kernel_rfl) rfl rfl ⟨q0, q2⟩ (fun hHeld => ?_)
            refine pure_ (i := 0) (N := some 243) (v := ?_) (a' := ?_) #[true, false, false, false, false, false, false, false, false, false] rfl rfl (by kernel_rfl) (fun _ _ _ h => h) (Or.inl ⟨by rfl, ?_⟩) ?_ ?_
            rotate_left
            · intro w'
              go_simp
              with_reducible rfl
            rotate_left
            · simp only [Act.put, List.setIfInBounds_toArray, List.set_cons_zero, List.set_cons_succ, i64_w, i32_w]
              rfl
            refine pure_ (i := 1) (N := some 244) (v := ?_) (a' := ?_) #[true, true, false, false, false, false, false, false, false, false] rfl rfl (by kernel_rfl) (fun _ _ _ h => h) (Or.inl ⟨by rfl, ?_⟩) ?_ ?_
            rotate_left
            · intro w'
              go_simp
              with_reducible rfl
            rotate_left
            · simp only [Act.put, List.setIfInBounds_toArray, List.set_cons_zero, List.set_cons_succ, i64_w, i32_w]
              rfl
            refine pure_ (i := 2) (N := some 245) (v := ?_) (a' := ?_) #[true, true, true, false, false, false, false, false, false, false] rfl rfl (by kernel_rfl) (fun _ _ _ h => h) (Or.inl ⟨by rfl, ?_⟩) ?_ ?_
            rotate_left
            · intro w'
              go_simp
              with_reducible rfl
            rotate_left
            · simp only [Act.put, List.setIfInBounds_toArray, List.set_cons_zero, List.set_cons_succ, i64_w, i32_w]
              rfl
            refine take_ (i := 3) (N := some 246) (v := ?_) (a' := ?_) #[true, true, true, true, false, false, false, false, false, false] rfl rfl (by kernel_rfl) (fun _ _ _ h => h) (Or.inl ⟨by rfl, ?_⟩) hHeld ?_ ?_
            rotate_left
            · rintro w' ⟨s0, s1⟩
              go_simp
              with_reducible rfl
            rotate_left
            · simp only [Act.put, List.setIfInBounds_toArray, List.set_cons_zero, List.set_cons_succ, i64_w, i32_w]
              rfl
            refine pure_ (i := 5) (N := some 248) (v := ?_) (a' := ?_) #[true, true, true, true, false, true, false, false, false, false] rfl rfl (by kernel_rfl) (fun _ _ _ h => h) (Or.inl ⟨by rfl, ?_⟩) ?_ ?_
            rotate_left
            · intro w'
              go_simp
              with_reducible rfl
            rotate_left
            · simp only [Act.put, List.setIfInBounds_toArray, List.set_cons_zero, List.set_cons_succ, i64_w, i32_w]
              rfl
            refine take_ (i := 6) (N := some 249) (v := ?_) (a' := ?_) #[true, true, true, true, false, true, true, false, false, false] rfl rfl (by kernel_rfl) (fun _ _ _ h => h) (Or.inl ⟨by rfl, ?_⟩) hHeld ?_ ?_
            rotate_left
            · rintro w' ⟨s0, s1⟩
              go_simp
              with_reducible rfl
            rotate_left
            · simp only [Act.put, List.setIfInBounds_toArray, List.set_cons_zero, List.set_cons_succ, i64_w, i32_w]
              rfl
            refine one_ (i := 4) (N := some 247) #[true, true, true, true, true, true, true, false, false, false] rfl rfl (by kernel_rfl) (by decide) (fun K hK => ?_)
            refine goes_ Tryd.func17 (by kernel_rfl) rfl #[P D.d] (by rfl) rfl rfl (by (try simp only [List.map_toArray, List.map_cons, List.map_nil]); rfl) ?_
            refine (ops_calls HBD.out.dw.at_).mono ?_
            rintro e w_ ⟨rfl, hww⟩
            have hww2 := hww.symm
            subst hww2
            refine ⟨_, rfl, ?_⟩
            refine hK.out _ _ hHeld (fun hHeld => ?_)
            clear hK K
            refine norm_ (a' := ?_) ?_ ?_
            rotate_left
            · show Act.put _ (some 247) _ = _
              simp only [Act.put, List.setIfInBounds_toArray, List.set_cons_zero, List.set_cons_succ, i64_w, i32_w]
              rfl
            refine one_ (i := 7) (N := some 250) #[true, true, true, true, true, true, true, true, false, false] rfl rfl (by kernel_rfl) (by decide) (fun K hK => ?_)
            refine goes_ Tryd.func12 (by kernel_rfl) rfl #[.int .i64 p.n, .int .i64 12] (by rfl) rfl rfl (by (try simp only [List.map_toArray, List.map_cons, List.map_nil]); rfl) ?_
            refine (HPN.out _).mono ?_
            rintro e w_ ⟨rfl, hww⟩
            have hww2 := hww.symm
            subst hww2
            refine ⟨_, rfl, ?_⟩
            refine hK.out _ _ hHeld (fun hHeld => ?_)
            clear hK K
            refine norm_ (a' := ?_) ?_ ?_
            rotate_left
            · show Act.put _ (some 250) _ = _
              simp only [Act.put, List.setIfInBounds_toArray, List.set_cons_zero, List.set_cons_succ, i64_w, i32_w]
              rfl
            refine pure_ (i := 8) (N := some 251) (v := ?_) (a' := ?_) #[true, true, true, true, true, true, true, true, true, false] rfl rfl (by kernel_rfl) (fun _ _ _ h => h) (Or.inl ⟨by rfl, ?_⟩) ?_ ?_
            rotate_left
            · intro w'
              go_simp
              with_reducible rfl
            rotate_left
            · simp only [Act.put, List.setIfInBounds_toArray, List.set_cons_zero, List.set_cons_succ, i64_w, i32_w]
              rfl
            refine pure_ (i := 9) (N := some 18) (v := ?_) (a' := ?_) #[true, true, true, true, true, true, true, true, true, true] rfl rfl (by kernel_rfl) (fun _ _ _ h => h) (Or.inl ⟨by rfl, ?_⟩) ?_ ?_
            rotate_left
            · intro w'
              go_simp
              with_reducible rfl
            rotate_left
            · simp only [Act.put, List.setIfInBounds_toArray, List.set_cons_zero, List.set_cons_succ, i64_w, i32_w]
              rfl
            refine done_ (by kernel_rfl) ?_
            clear hHeld q0 q2 HPN z0 z1 z2 z3 p0 HB HLW HZ
            generalize wrap64 (D.ops + pn) = ni
            generalize wp.drew = wq at *
            go_wp2
            refine wp_loop_ghost_k (FailsAt w (some ⟨b2, o2, none⟩) n cap keep torn x nn M z p k (.slice Ag G.length cg) t G ni) 5 ?s6 ?r6
            case s6 => exact ⟨0, D, _, F, Nat.zero_le _, Nat.le_refl _, ⟨rfl, rfl, rfl, rfl, rfl, rfl, rfl⟩, rfl, rfl, rfl, HBD, HLD, HFL, HZD, HZO⟩
            case r6 =>
              clear HBD HLD HZD HZO HFL HFI
              intro g6 a w6 hrel J6 K6 hJ6 hK6
              obtain ⟨kk, D6, vf6, F6, hkk, hg6, hfi, h12, h18, h19, HB6, HL6, HF6, HZ6, HZO6⟩ := hrel
              obtain ⟨hdf, hsz, h0, h1, h2, h9, h11⟩ := hfi
              obtain ⟨tm, df⟩ := a
              have hdf' : df = [] := hdf
              subst hdf'
              have hfr := frame339 tm hsz
              have g0 : gv tm 0 = .slice (some ⟨b2, o2, none⟩) n cap := h0
              have g1 : gv tm 1 = .int .i64 keep := h1
              have g2 : gv tm 2 = .int .i64 torn := h2
              have g9 : gv tm 9 = P x := h9
              have g11 : gv tm 11 = .int .i64 nn := h11
              have g12 : gv tm 12 = P z := h12
              have g18 : gv tm 18 = .int .i64 ni := h18
              have g19 : gv tm 19 = .int .i64 kk := h19
              rw [g0, g1, g2, g9, g11, g12, g18, g19] at hfr
              clear hdf hsz h0 h1 h2 h9 h11 h12 h18 h19 g0 g1 g2 g9 g11 g12 g18 g19
              rw [hfr]
              clear hfr
              obtain ⟨Af6, cf6, rfl⟩ := Kd.R_slice HB6.out.frow
              have p0 := HB6.out.c0
              have z3 := (box_cells' HZ6.out).2.2.2
              have HK := hid (And.intro hkk hg6)
              clear hkk hg6
              by_cases hkp : (kk : Int) ≤ pt
              · have HK1 := hid (plays_kk hkp HPB.out)
                have hkw := plays_kw HK1.out
                have HFA := hid (fun (W : World) (hW : Fr [] w6 W) (A : Addr) (hA : W.cell? A = some (.int .i64 (wrap64 (ni + (kk : Int))))) (hA0 : A.spot = none) => fail_st (HB6.out.dw.at_.new hW) HB6.out.dw.good (plays_kn HM.out HKK.out HK.out.1) (wrap64 (ni + (kk : Int))) A 1 (wf_wrap _) hA hA0)
                go_upto_region 45 with (first | (go_at_call 12; refine (HPT.out _).mono ?_; rintro e w_ ⟨rfl, hww⟩; have hww2 := hww.symm; subst hww2) | (go_at_call 25; refine (HFA.out _ (Fr.alloc [] w6 _) ⟨w6.heap.size, 0, none⟩ ((cell_of (MapKept.heap_alloc w6 _).1 0).trans rfl) rfl).mono ?_; rintro e w7 ⟨rfl, g7⟩; have HB7 := hid ((HB6.out.new (Fr.alloc [] w6 _)).fail _ g7); have HL7 := hid ((HL6.out.new (Fr.alloc [] w6 _)).fail_ (n := D6.n + 1) (fl := fun u => if u = wrap64 (ni + (kk : Int)) then D6.fails (wrap64 (ni + (kk : Int))) + 1 else D6.fails u) g7.fr (fun hm => HL6.out.off.1 hm)); have HZ7 := hid ((g7.fr.keep z (Nat.lt_of_lt_of_le (lt_of HZ6.out) (Fr.alloc [] w6 _).size) (fun hm => HZO6.out (List.mem_cons_of_mem _ (List.mem_cons_of_mem _ hm)))).trans (((Fr.alloc [] w6 _).keep z (lt_of HZ6.out) (by simp)).trans HZ6.out)); clear g7))
                clear HFA HB6 HL6 HZ6 p0 z3
                have p3 := HB7.out.c3
                have hf3 := HB7.out.free 3
                have HNW := hid (fun (j : Nat) (hj : w7.heap.size ≤ j) => (show j ∉ x :: k :: D6.own from fun hm => Nat.lt_irrefl _ (Nat.lt_of_lt_of_le (HB7.out.olt j hm) hj)))
                have HSZ := hid (Nat.le_trans HB7.out.dw.bel.size (Nat.le_refl _))
                go_wp2_with ((with_reducible refine gate_builtin (b := .append) (xs := #[.tmp 272, .tmp 276]) rfl ?_); (try (refine gate_guard (by rfl) ?_; dsimp only)); at_builtin; refine Kd.R_append kI (w0 := w) w.heap.size rfl (.tmp 272) (.tmp 276) 45 3 (.int .i64 0) 8 rfl Tryd.underlying45 infoInt rfl (by decide) (by omega) (.slice Af6 F6.length cf6) F6 (wrap64 (ni + (kk : Int))) [.int .i64 (wrap64 (ni + (kk : Int)))] (fun j => j ∉ x :: k :: D6.own) (fun _ => False) rfl rfl ?aP (fun _ hk => hk.elim) HNW.out ?aO ?aB ?aS ?aL ?_; (case aP => exact rfl); (case aO => exact HB7.out.frow); (case aB => exact HB7.out.dw.bel); (case aS => exact HSZ.out); (case aL => exact plays_kf HF6.out HKK.out HK.out.1); intro v8 w8 ho8 hb8 hg8 hat8; obtain ⟨A8, c8, hv8⟩ := Kd.R_slice ho8; rw [List.length_append, List.length_singleton] at hv8; subst hv8; have HPA := hid (HB7.out.append hg8 ho8 (fun j hj => hj)); have p8 : w8.cell? ⟨x, 3, none⟩ = some (.slice Af6 F6.length cf6) := (cell_keep HPA.out.1 3).trans p3; have hf8 : w8.frozen? ⟨x, 3, none⟩ = false := free_of (HPA.out.1.trans HB7.out.obj) 3; clear ho8 hb8 hg8 hat8)
                refine Handed.intro (5 - (kk + 1)) (plays_kd HK.out.2 HK1.out) (hJ6 _ _ _ ?_)
                obtain ⟨own8, hf8, ho8⟩ := HPA.out.2.2
                exact ⟨kk + 1, _, _, F6 ++ [wrap64 (ni + (kk : Int))], HK1.out, Nat.le_refl _, ⟨rfl, rfl, rfl, rfl, rfl, rfl, rfl⟩, rfl, rfl, (by first | rfl | (rw [hkw]; rfl)), hid HPA.out.2.1, hid (HL7.out.fr hf8 (fun hm => (ho8 k hm).elim (fun e => HPA.out.2.1.xoff (by rw [e]; exact List.mem_cons_self)) (fun e => e.1 (List.mem_cons_of_mem _ List.mem_cons_self)))), hid (by rw [List.length_append]; exact plays_kf1 HF6.out), hid ((hf8.keep z (lt_of HZ7.out) (fun hm => (ho8 z hm).elim (fun e => HZO6.out (by rw [e]; exact List.mem_cons_self)) (fun e => by obtain ⟨_, cs, hc⟩ := e; rw [HZ7.out] at hc; injection hc with hc; injection hc with _ hc _; exact absurd hc (by decide)))).trans HZ7.out), HZO6⟩
              · go_wp2_with (go_at_call 12; refine (HPT.out _).mono ?_; rintro e w_ ⟨rfl, hww⟩; have hww2 := hww.symm; subst hww2)
                refine Handed.intro (60 - (nn + 1)) (plays_me HGN.out.2 HKK.out) (hJ _ _ _ ?_)
                exact ⟨nn + 1, M + kk, D6, k, _, _, t, G, F6, HKK.out, Nat.le_refl _, rfl, rfl, rfl, rfl, rfl, rfl, (by first | rfl | (rw [hjz]; rfl)), hid (plays_ke HM.out HK.out.1), HB6, HL6, hid (Nat.le_succ_of_le HG.out), hid (plays_kfe HF6.out HK.out.1)⟩
          · have hb6 : (pv == 6) = false := beq_eq_false_iff_ne.2 h6
            by_cases h7 : pv = 7
            · subst h7
              clear hpb
              have HNA := hid (names_w HB.out.dw.at_ HB.out.dw.good (Nat.le_trans (plays_mn HM.out HKK.out) (by decide)))
              go_upto_region 49 with (go_at_call 20; refine HNA.out.mono ?_; rintro e w5 ⟨v5, l5, rfl, hr5, hb5_, hl5, hd5⟩; obtain ⟨A5, c5, rfl⟩ := Kd.R_slice hr5; have HR5 := hid hr5; have HL5 := hid hl5; have HD5 := hid hd5; have HB5 := hid hb5_; clear hr5 hb5_ hl5 hd5)
              clear HNA p0 z0 z1 z2 z3
              have HB0 := hid (HB.out.new (Fr.of_below HB5.out []))
              have HLW0 := hid (HLW.out.new (Fr.of_below HB5.out []))
              have HZ0 := hid ((HB5.out.block z (lt_of HZ.out)).trans HZ.out)
              clear HB HLW HZ HB5 HFI
              go_wp2
              refine wp_loop_ghost_k (NamesAt (some ⟨b2, o2, none⟩) n cap keep torn x nn z A5 l5.length c5 w5) l5.length ?s7 ?r7
              case s7 => exact ⟨0, 0, Nat.zero_le _, Nat.le_refl _, ⟨rfl, rfl, rfl, rfl, rfl, rfl, rfl⟩, rfl, rfl, rfl, rfl, hid (Fr.refl [] _)⟩
              case r7 =>
                intro g7 a w7 hrel J7 K7 hJ7 hK7
                obtain ⟨ii, u, hii, hg7, hfi, h12, h20, h21, h22, HF7⟩ := hrel
                obtain ⟨hdf, hsz, h0, h1, h2, h9, h11⟩ := hfi
                obtain ⟨tm, df⟩ := a
                have hdf' : df = [] := hdf
                subst hdf'
                have hfr := frame339 tm hsz
                have g0 : gv tm 0 = .slice (some ⟨b2, o2, none⟩) n cap := h0
                have g1 : gv tm 1 = .int .i64 keep := h1
                have g2 : gv tm 2 = .int .i64 torn := h2
                have g9 : gv tm 9 = P x := h9
                have g11 : gv tm 11 = .int .i64 nn := h11
                have g12 : gv tm 12 = P z := h12
                have g20 : gv tm 20 = .int .i64 u := h20
                have g21 : gv tm 21 = .slice A5 l5.length c5 := h21
                have g22 : gv tm 22 = .int .i64 ii := h22
                rw [g0, g1, g2, g9, g11, g12, g20, g21, g22] at hfr
                clear hdf hsz h0 h1 h2 h9 h11 h12 h20 h21 h22 g0 g1 g2 g9 g11 g12 g20 g21 g22
                rw [hfr]
                clear hfr
                have HB := hid (HB0.out.new HF7.out)
                have HLW := hid (HLW0.out.new HF7.out)
                have HZ := hid ((HF7.out.keep z (lt_of HZ0.out) (by simp)).trans HZ0.out)
                have HR := hid (Kd.R_step HR5.out (fun j _ hlt => HF7.out.keep j hlt (by simp)))
                have HI := hid (And.intro hii hg7)
                clear hii hg7
                by_cases hil : ii < l5.length
                · have hilz : (ii : Int) < (l5.length : Int) := Int.ofNat_lt.2 hil
                  clear HLW HZ
                  have HRD := hid (Kd.R_step HR.out (fun j _ hlt => (Fr.refl [] w7).drew.keep j hlt (by simp)))
                  obtain ⟨b5, o5, hA5, htx⟩ := R_texts HRD.out (Nat.lt_of_le_of_lt (Nat.zero_le _) hil)
                  have q4 := htx ii hil
                  have HBD := hid (HB.out.new (Fr.refl [] w7).drew)
                  have HSI := hid (size_in HBD.out.dw.at_ HBD.out.dw.good (HD5.out _ (List.getElem_mem hil)))
                  have hnw := plays_nw hil (Nat.le_trans HL5.out (plays_mn HM.out HKK.out))
                  subst hA5
                  clear htx
                  generalize l5[ii] = st at *
                  have q0 := HBD.out.c0
                  have HIL := hid hil
                  clear hil
                  go_upto_region 52 with fail
                  refine start_ (n := 12) (S := fun w' => w'.cell? ⟨x, 0, none⟩ = some (P D.d) ∧ w'.cell? ⟨b5, o5 + ii, none⟩ = some (.string st)) (ds := []) #[false, false, false, false, false, false, false, false, false, false, false, false] (by kernel_rfl) rfl rfl ⟨q0, q4⟩ (fun hHeld => ?_)
                  refine pure_ (i := 0) (N := some 293) (v := ?_) (a' := ?_) #[true, false, false, false, false, false, false, false, false, false, false, false] rfl rfl (by kernel_rfl) (fun _ _ _ h => h) (Or.inl ⟨by rfl, ?_⟩) ?_ ?_
                  rotate_left
                  · intro w'
                    go_simp
                    with_reducible rfl
                  rotate_left
                  · simp only [Act.put, List.setIfInBounds_toArray, List.set_cons_zero, List.set_cons_succ, i64_w, i32_w]
                    rfl
                  refine pure_ (i := 1) (N := some 294) (v := ?_) (a' := ?_) #[true, true, false, false, false, false, false, false, false, false, false, false] rfl rfl (by kernel_rfl) (fun _ _ _ h => h) (Or.inl ⟨by rfl, ?_⟩) ?_ ?_
                  rotate_left
                  · intro w'
                    go_simp
                    with_reducible rfl
                  rotate_left
                  · simp only [Act.put, List.setIfInBounds_toArray, List.set_cons_zero, List.set_cons_succ, i64_w, i32_w]
                    rfl
                  refine pure_ (i := 2) (N := some 295) (v := ?_) (a' := ?_) #[true, true, true, false, false, false, false, false, false, false, false, false] rfl rfl (by kernel_rfl) (fun _ _ _ h => h) (Or.inl ⟨by rfl, ?_⟩) ?_ ?_
                  rotate_left
                  · intro w'
                    go_simp
                    with_reducible rfl
                  rotate_left
                  · simp only [Act.put, List.setIfInBounds_toArray, List.set_cons_zero, List.set_cons_succ, i64_w, i32_w]
                    rfl
                  refine pure_ (i := 3) (N := some 296) (v := ?_) (a' := ?_) #[true, true, true, true, false, false, false, false, false, false, false, false] rfl rfl (by kernel_rfl) (fun _ _ _ h => h) (Or.inl ⟨by rfl, ?_⟩) ?_ ?_
                  rotate_left
                  · intro w'
                    go_simp
                    with_reducible rfl
                  rotate_left
                  · simp only [Act.put, List.setIfInBounds_toArray, List.set_cons_zero, List.set_cons_succ, i64_w, i32_w]
                    rfl
                  refine take_ (i := 4) (N := some 297) (v := ?_) (a' := ?_) #[true, true, true, true, true, false, false, false, false, false, false, false] rfl rfl (by kernel_rfl) (fun _ _ _ h => h) (Or.inl ⟨by rfl, ?_⟩) hHeld ?_ ?_
                  rotate_left
                  · rintro w' ⟨s0, s1⟩
                    go_simp
                    with_reducible rfl
                  rotate_left
                  · simp only [Act.put, List.setIfInBounds_toArray, List.set_cons_zero, List.set_cons_succ, i64_w, i32_w]
                    rfl
                  refine pure_ (i := 5) (N := some 298) (v := ?_) (a' := ?_) #[true, true, true, true, true, true, false, false, false, false, false, false] rfl rfl (by kernel_rfl) (fun _ _ _ h => h) (Or.inl ⟨by rfl, ?_⟩) ?_ ?_
                  rotate_left
                  · intro w'
                    go_simp
                    with_reducible rfl
                  rotate_left
                  · simp only [Act.put, List.setIfInBounds_toArray, List.set_cons_zero, List.set_cons_succ, i64_w, i32_w]
                    rfl
                  refine pure_ (i := 6) (N := some 299) (v := ?_) (a' := ?_) #[true, true, true, true, true, true, true, false, false, false, false, false] rfl rfl (by kernel_rfl) (fun _ _ _ h => h) (Or.inl ⟨by rfl, ?_⟩) ?_ ?_
                  rotate_left
                  · intro w'
                    go_simp
                    with_reducible rfl
                  rotate_left
                  · simp only [Act.put, List.setIfInBounds_toArray, List.set_cons_zero, List.set_cons_succ, i64_w, i32_w]
                    rfl
                  refine pure_ (i := 7) (N := some 300) (v := ?_) (a' := ?_) #[true, true, true, true, true, true, true, true, false, false, false, false] rfl rfl (by kernel_rfl) (fun _ _ _ h => h) (Or.inl ⟨by rfl, ?_⟩) ?_ ?_
                  rotate_left
                  · intro w'
                    go_simp
                    with_reducible rfl
                  rotate_left
                  · simp only [Act.put, List.setIfInBounds_toArray, List.set_cons_zero, List.set_cons_succ, i64_w, i32_w]
                    rfl
                  refine take_ (i := 8) (N := some 301) (v := ?_) (a' := ?_) #[true, true, true, true, true, true, true, true, true, false, false, false] rfl rfl (by kernel_rfl) (fun _ _ _ h => h) (Or.inl ⟨by rfl, ?_⟩) hHeld ?_ ?_
                  rotate_left
                  · rintro w' ⟨s0, s1⟩
                    go_simp
                    with_reducible rfl
                  rotate_left
                  · simp only [Act.put, List.setIfInBounds_toArray, List.set_cons_zero, List.set_cons_succ, i64_w, i32_w]
                    rfl
                  refine one_ (i := 9) (N := some 302) #[true, true, true, true, true, true, true, true, true, true, false, false] rfl rfl (by kernel_rfl) (by decide) (fun K hK => ?_)
                  refine goes_ Tryd.func21 (by kernel_rfl) rfl #[P D.d, .string st] (by rfl) rfl rfl (by (try simp only [List.map_toArray, List.map_cons, List.map_nil]); rfl) ?_
                  refine HSI.out.mono ?_
                  rintro e w_ ⟨u2, rfl, hww⟩
                  have hww2 := hww.symm
                  subst hww2
                  refine ⟨_, rfl, ?_⟩
                  refine hK.out _ _ hHeld (fun hHeld => ?_)
                  clear hK K
                  refine norm_ (a' := ?_) ?_ ?_
                  rotate_left
                  · show Act.put _ (some 302) _ = _
                    simp only [Act.put, List.setIfInBounds_toArray, List.set_cons_zero, List.set_cons_succ, i64_w, i32_w]
                    rfl
                  refine pure_ (i := 10) (N := some 303) (v := ?_) (a' := ?_) #[true, true, true, true, true, true, true, true, true, true, true, false] rfl rfl (by kernel_rfl) (fun _ _ _ h => h) (Or.inl ⟨by rfl, ?_⟩) ?_ ?_
                  rotate_left
                  · intro w'
                    go_simp
                    with_reducible rfl
                  rotate_left
                  · simp only [Act.put, List.setIfInBounds_toArray, List.set_cons_zero, List.set_cons_succ, i64_w, i32_w]
                    rfl
                  refine pure_ (i := 11) (N := some 20) (v := ?_) (a' := ?_) #[true, true, true, true, true, true, true, true, true, true, true, true] rfl rfl (by kernel_rfl) (fun _ _ _ h => h) (Or.inl ⟨by rfl, ?_⟩) ?_ ?_
                  rotate_left
                  · intro w'
                    go_simp
                    with_reducible rfl
                  rotate_left
                  · simp only [Act.put, List.setIfInBounds_toArray, List.set_cons_zero, List.set_cons_succ, i64_w, i32_w]
                    rfl
                  refine done_ (by kernel_rfl) ?_
                  clear hHeld q0 q4
                  go_wp2
                  refine Handed.intro (l5.length - (ii + 1)) (plays_dec HI.out.2 HIL.out) (hJ7 _ _ _ ?_)
                  exact ⟨ii + 1, _, HIL.out, Nat.le_refl _, ⟨rfl, rfl, rfl, rfl, rfl, rfl, rfl⟩, rfl, rfl, rfl, (by first | rfl | (rw [hnw]; rfl)), hid HF7.out.drew⟩
                · have hilz : ¬ (ii : Int) < (l5.length : Int) := fun h => hil (Int.ofNat_lt.1 h)
                  have p0 := HB.out.c0
                  have p4 := HB.out.c4
                  have hf4 := HB.out.free 4
                  have z2 := (box_cells' HZ.out).2.2.1
                  by_cases hpn : 0 ≤ p.n
                  · have HSR := hid (setroom_calls (HB.out.dk4 (.bool true)) 16777216)
                    have s0 : (w7.setCell ⟨x, 4, none⟩ (.bool true)).cell? ⟨x, 0, none⟩ = some (P D.d) := (cell_of (by rw [heap_set HB.out.obj]; rfl : (w7.setCell ⟨x, 4, none⟩ (.bool true)).heap[x]? = some (wsObj D.d k (.slice Ag G.length cg) (.slice Af F.length cf) true)) 0).trans rfl
                    go_upto_region 55 with (go_at_call 26; refine HSR.out.mono ?_; rintro e w8 ⟨rfl, hd8, hf8⟩; have HT8 := hid (HB.out.tight true hf8 hd8 (by decide)); clear hd8 hf8)
                    have HZ8 := hid ((HT8.out.2.keep z (lt_of HZ.out) (fun hm => HZO.out (in2 List.mem_cons_self hm))).trans HZ.out)
                    have HP8 := hid HT8.out.1
                    have HL8 := hid ((HLW.out.fr (own := [x, D.d]) HT8.out.2 (kin2 HB.out.xoff HLW.out.off.1 List.mem_cons_self)).room_ (Fr.refl _ _) (max 16777216 0))
                    clear HB HLW HZ HT8 p0 p4 hf4 z2 HSR s0
                    have p4 := HP8.out.c4
                    have HPD := hid (HP8.out.new (Fr.refl [] w8).drew)
                    have HLD := hid (HL8.out.new (Fr.refl [] w8).drew)
                    have HZD := hid (((Fr.refl [] w8).drew.keep z (lt_of HZ8.out) (by simp)).trans HZ8.out)
                    have q0 := HPD.out.c0
                    have q2 := (box_cells' HZD.out).2.2.1
                    clear HP8 HL8 HZ8
                    go_upto_region 56 with fail
                    refine start_ (n := 10) (S := fun w' => w'.cell? ⟨x, 0, none⟩ = some (P D.d) ∧ w'.cell? ⟨z, 2, none⟩ = some (.int .i64 p.n)) (ds := []) #[false, false, false, false, false, false, false, false, false, false] (by kernel_rfl) rfl rfl ⟨q0, q2⟩ (fun hHeld => ?_)
                    refine pure_ (i := 0) (N := some 319) (v := ?_) (a' := ?_) #[true, false, false, false, false, false, false, false, false, false] rfl rfl (by kernel_rfl) (fun _ _ _ h => h) (Or.inl ⟨by rfl, ?_⟩) ?_ ?_
                    rotate_left
                    · intro w'
                      go_simp
                      with_reducible rfl
                    rotate_left
                    · simp only [Act.put, List.setIfInBounds_toArray, List.set_cons_zero, List.set_cons_succ, i64_w, i32_w]
                      rfl
                    refine pure_ (i := 1) (N := some 320) (v := ?_) (a' := ?_) #[true, true, false, false, false, false, false, false, false, false] rfl rfl (by kernel_rfl) (fun _ _ _ h => h) (Or.inl ⟨by rfl, ?_⟩) ?_ ?_
                    rotate_left
                    · intro w'
                      go_simp
                      with_reducible rfl
                    rotate_left
                    · simp only [Act.put, List.setIfInBounds_toArray, List.set_cons_zero, List.set_cons_succ, i64_w, i32_w]
                      rfl
                    refine pure_ (i := 2) (N := some 321) (v := ?_) (a' := ?_) #[true, true, true, false, false, false, false, false, false, false] rfl rfl (by kernel_rfl) (fun _ _ _ h => h) (Or.inl ⟨by rfl, ?_⟩) ?_ ?_
                    rotate_left
                    · intro w'
                      go_simp
                      with_reducible rfl
                    rotate_left
                    · simp only [Act.put, List.setIfInBounds_toArray, List.set_cons_zero, List.set_cons_succ, i64_w, i32_w]
                      rfl
                    refine take_ (i := 3) (N := some 322) (v := ?_) (a' := ?_) #[true, true, true, true, false, false, false, false, false, false] rfl rfl (by kernel_rfl) (fun _ _ _ h => h) (Or.inl ⟨by rfl, ?_⟩) hHeld ?_ ?_
                    rotate_left
                    · rintro w' ⟨s0, s1⟩
                      go_simp
                      with_reducible rfl
                    rotate_left
                    · simp only [Act.put, List.setIfInBounds_toArray, List.set_cons_zero, List.set_cons_succ, i64_w, i32_w]
                      rfl
                    refine pure_ (i := 4) (N := some 323) (v := ?_) (a' := ?_) #[true, true, true, true, true, false, false, false, false, false] rfl rfl (by kernel_rfl) (fun _ _ _ h => h) (Or.inl ⟨by rfl, ?_⟩) ?_ ?_
                    rotate_left
                    · intro w'
                      go_simp
                      with_reducible rfl
                    rotate_left
                    · simp only [Act.put, List.setIfInBounds_toArray, List.set_cons_zero, List.set_cons_succ, i64_w, i32_w]
                      rfl
                    refine pure_ (i := 5) (N := some 324) (v := ?_) (a' := ?_) #[true, true, true, true, true, true, false, false, false, false] rfl rfl (by kernel_rfl) (fun _ _ _ h => h) (Or.inl ⟨by rfl, ?_⟩) ?_ ?_
                    rotate_left
                    · intro w'
                      go_simp
                      with_reducible rfl
                    rotate_left
                    · simp only [Act.put, List.setIfInBounds_toArray, List.set_cons_zero, List.set_cons_succ, i64_w, i32_w]
                      rfl
                    refine take_ (i := 6) (N := some 325) (v := ?_) (a' := ?_) #[true, true, true, true, true, true, true, false, false, false] rfl rfl (by kernel_rfl) (fun _ _ _ h => h) (Or.inl ⟨by rfl, ?_⟩) hHeld ?_ ?_
                    rotate_left
                    · rintro w' ⟨s0, s1⟩
                      go_simp
                      with_reducible rfl
                    rotate_left
                    · simp only [Act.put, List.setIfInBounds_toArray, List.set_cons_zero, List.set_cons_succ, i64_w, i32_w]
                      rfl
                    refine pure_ (i := 7) (N := some 326) (v := ?_) (a' := ?_) #[true, true, true, true, true, true, true, true, false, false] rfl rfl (by kernel_rfl) (fun _ _ _ h => h) (Or.inl ⟨by rfl, ?_⟩) ?_ ?_
                    rotate_left
                    · intro w'
                      go_simp
                      with_reducible rfl
                    rotate_left
                    · simp only [Act.put, List.setIfInBounds_toArray, List.set_cons_zero, List.set_cons_succ, i64_w, i32_w]
                      rfl
                    refine pure_ (i := 8) (N := some 327) (v := ?_) (a' := ?_) #[true, true, true, true, true, true, true, true, true, false] rfl rfl (by kernel_rfl) (fun _ _ _ h => h) (Or.inl ⟨by rfl, ?_⟩) ?_ ?_
                    rotate_left
                    · intro w'
                      go_simp
                      with_reducible rfl
                    rotate_left
                    · simp only [Act.put, List.setIfInBounds_toArray, List.set_cons_zero, List.set_cons_succ, i64_w, i32_w]
                      rfl
                    refine one_ (i := 9) (N := some 328) #[true, true, true, true, true, true, true, true, true, true] rfl rfl (by kernel_rfl) (by decide) (fun K hK => ?_)
                    refine goes_ Tryd.func26 (by kernel_rfl) rfl #[P D.d, .int .i64 (wrap64 (u + Int.tmod p.n 2000))] (by rfl) rfl rfl (by (try simp only [List.map_toArray, List.map_cons, List.map_nil]); rfl) ?_
                    refine (setroom_calls HPD.out.dw.at_ (wrap64 (u + Int.tmod p.n 2000))).mono ?_
                    rintro e w9 ⟨rfl, hd9, hf9⟩
                    have HP9 := hid (HPD.out.setRoom hf9 hd9 true rfl (by intro h; cases h))
                    have HL9 := hid (HLD.out.room_ hf9 (max (wrap64 (u + Int.tmod p.n 2000)) 0))
                    have HZ9 := hid ((hf9.keep z (lt_of HZD.out) (fun hm => HZO.out (by rw [List.mem_singleton.1 hm]; exact List.mem_cons_of_mem _ (List.mem_cons_of_mem _ List.mem_cons_self)))).trans HZD.out)
                    clear hd9 hf9
                    refine ⟨_, rfl, ?_⟩
                    refine hK.out _ _ ⟨HP9.out.c0, (box_cells' HZ9.out).2.2.1⟩ (fun hHeld => ?_)
                    clear hK K
                    refine norm_ (a' := ?_) ?_ ?_
                    rotate_left
                    · show Act.put _ (some 328) _ = _
                      simp only [Act.put, List.setIfInBounds_toArray, List.set_cons_zero, List.set_cons_succ, i64_w, i32_w]
                      rfl
                    refine done_ (by kernel_rfl) ?_
                    clear hHeld q0 q2
                    try go_wp2
                    refine Handed.intro (60 - (nn + 1)) (plays_me HGN.out.2 HKK.out) (hJ _ _ _ ?_)
                    exact ⟨nn + 1, M, _, k, _, _, true, G, F, HKK.out, Nat.le_refl _, rfl, rfl, rfl, rfl, rfl, rfl, (by first | rfl | (rw [hjz]; rfl)), hid (plays_m16 HM.out).2.2, HP9, HL9, hid (Nat.le_succ_of_le HG.out), hid (plays_f5 HFL.out)⟩
                  · have HSR := hid (setroom_calls (HB.out.dk4 (.bool false)) 16777216)
                    have s0 : (w7.setCell ⟨x, 4, none⟩ (.bool false)).cell? ⟨x, 0, none⟩ = some (P D.d) := (cell_of (by rw [heap_set HB.out.obj]; rfl : (w7.setCell ⟨x, 4, none⟩ (.bool false)).heap[x]? = some (wsObj D.d k (.slice Ag G.length cg) (.slice Af F.length cf) false)) 0).trans rfl
                    have hpn2 : p.n < 0 := Int.not_le.1 hpn
                    go_upto_region 55 with (go_at_call 26; refine HSR.out.mono ?_; rintro e w8 ⟨rfl, hd8, hf8⟩; have HT8 := hid (HB.out.tight false hf8 hd8 (by decide)); clear hd8 hf8)
                    have HZ8 := hid ((HT8.out.2.keep z (lt_of HZ.out) (fun hm => HZO.out (in2 List.mem_cons_self hm))).trans HZ.out)
                    have HP8 := hid HT8.out.1
                    have HL8 := hid ((HLW.out.fr (own := [x, D.d]) HT8.out.2 (kin2 HB.out.xoff HLW.out.off.1 List.mem_cons_self)).room_ (Fr.refl _ _) (max 16777216 0))
                    clear HB HLW HZ HT8 p0 p4 hf4 z2 HSR s0
                    have p4 := HP8.out.c4
                    go_wp2
                    refine Handed.intro (60 - (nn + 1)) (plays_me HGN.out.2 HKK.out) (hJ _ _ _ ?_)
                    exact ⟨nn + 1, M, _, k, _, _, false, G, F, HKK.out, Nat.le_refl _, rfl, rfl, rfl, rfl, rfl, rfl, (by first | rfl | (rw [hjz]; rfl)), hid (plays_m16 HM.out).2.2, HP8, HL8, hid (Nat.le_succ_of_le HG.out), hid (plays_f5 HFL.out)⟩
            · have hb7 : (pv == 7) = false := beq_eq_false_iff_ne.2 h7
              have HBE := hid (behind_calls wp x D.d k (.slice Ag G.length cg) (.slice Af F.length cf) t G HB.out.obj (fun j => j ∉ x :: k :: D.own) (fun j hj hm => Nat.lt_irrefl _ (Nat.lt_of_lt_of_le (HB.out.olt j hm) hj)) HB.out.row.1 (plays_g32 HG.out HKK.out) p (HOI.out.keep HB.out.dw.bel))
              go_upto_region 12 with (go_at_call 18; refine HBE.out.mono ?_; rintro e wb ⟨v8, rfl, hr8, hb8⟩; obtain ⟨A8, c8, rfl⟩ := Kd.R_slice hr8; have HR8 := hid hr8; have HB8 := hid hb8; clear hr8 hb8)
              clear HBE p0 z0 z1 z2 z3
              obtain ⟨z0, z1, z2, z3⟩ := box_cells' ((HB8.out.block z (lt_of HZ.out)).trans HZ.out)
              have HB7 := hid (HB.out.new (Fr.of_below HB8.out []))
              have HT7 := hid (show Wr wb (x :: k :: D.own) (.slice A8 (nxt p G).length c8) (nxt p G) from HB.out.row.nxt HR8.out)
              have HLA := hid (lay_calls HB7.out.dw (HLW.out.new (Fr.of_below HB8.out [])) HL.out (plays_lay HM.out HKK.out) (by decide) namedLog [nLog, nLog2] HB7.out.only (by simp) (by simp) (.slice Ag G.length cg) Af cf F t HB7.out.obj HB7.out.xoff (fun W f => R_ints (own := x :: k :: D.own) (I_to HB7.out.frow f (fun j hj => List.mem_cons_of_mem _ hj) (fun j hj => .inl hj))) (plays_f HFL.out HKK.out) p HOI.out (plays_e HB7.out.row.2.2 HG.out HKK.out) (R := 12582912) (by decide))
              go_upto_region 13 with (go_at_call 19; refine HLA.out.mono ?_; intro e w9 hl9; obtain ⟨c, D9, rfl, hp9, hd9, hf9, ho9, hc35, hway9⟩ := HB7.out.of_lay hl9; have HB9 := hid hp9; have HF9 := hid hf9; have HO9 := hid ho9; have HC35 := hid hc35; have HWY := hid hway9; clear hl9 hp9 hd9 hf9 ho9 hc35 hway9)
              clear HLA z0 z1 z2 z3
              have HT9 := hid (HT7.out.to (own' := x :: k :: D9.own) HF9.out (fun j hj => List.mem_cons_of_mem _ hj) (own3 HO9.out))
              clear HB7 HT7 HB HLW HFI HR8
              have hb35 : (c == 35) = false := beq_eq_false_iff_ne.2 HC35.out
              go_upto_if 80 with fail
              go_cut [81] (fun v81 wc => ∃ (A7 : Option Addr) (c7 : Nat) (G7 : List (List ByteArray)), Hid (Px w wc (M + 16) D9 k x (.slice A7 G7.length c7) (.slice Af F.length cf) t G7 F F) ∧ Hid (Lw w wc D9 k nLog G7) ∧ Hid (G7.length ≤ nn + 1))
              case first =>
                rcases HWY.out with ⟨hc, lw9⟩ | ⟨hc, lw9⟩
                · subst hc
                  have HLW9 := hid lw9
                  have hfz := HB9.out.free 2
                  have p2 := HB9.out.c2
                  have HBS := hid (HB9.out.setg HT9.out)
                  have HLS := hid (HLW9.out.fr HBS.out.2 (fun hm => HB9.out.xoff (by rw [← List.mem_singleton.1 hm]; exact List.mem_cons_self)))
                  have HBS1 := hid HBS.out.1
                  have HGN9 := hid (show (nxt p G).length ≤ nn + 1 from Nat.le_trans nxt_len (Nat.succ_le_succ HG.out))
                  clear HWY lw9
                  go_wp2
                  go_meet
                  case rel => exact ⟨A8, c8, nxt p G, HBS1, HLS, HGN9⟩
                · have hb0 : (c == 0) = false := beq_eq_false_iff_ne.2 hc
                  have HLW9 := hid lw9
                  have HGN9 := hid (Nat.le_succ_of_le HG.out)
                  clear HWY lw9 hc
                  go_wp2
                  go_meet
                  case rel => exact ⟨Ag, cg, G, HB9, HLW9, HGN9⟩
              case rest =>
                obtain ⟨A7, c7, G7, HB17, HLW17, HGN9⟩ := hcut
                clear HB9 HWY HT9
                go_upto_region 17 with fail
                have HBDb1 := hid (HB17.out.new (Fr.refl [] wc).drew)
                have HLDb1 := hid (HLW17.out.new (Fr.refl [] wc).drew)
                have q0b1 : wc.drew.cell? ⟨x, 0, none⟩ = some (P D9.d) := HBDb1.out.c0
                have q2b1 : wc.drew.cell? ⟨x, 2, none⟩ = some (.slice A7 G7.length c7) := HBDb1.out.c2
                have HCUb1 := hid (HLDb1.out.cuts HBDb1.out.dw.good)
                have HXLb1 := hid HBDb1.out.xlt
                refine start_ (n := 11) (S := fun w' => w'.cell? ⟨x, 0, none⟩ = some (P D9.d) ∧ w'.cell? ⟨x, 2, none⟩ = some (.slice A7 G7.length c7)) (ds := []) #[false, false, false, false, false, false, false, false, false, false, false] (by kernel_rfl) rfl rfl ⟨q0b1, q2b1⟩ (fun hHeld => ?_)
                refine pure_ (i := 0) (N := some 85) (v := ?_) (a' := ?_) #[true, false, false, false, false, false, false, false, false, false, false] rfl rfl (by kernel_rfl) (fun _ _ _ h => h) (Or.inl ⟨by rfl, ?_⟩) ?_ ?_
                rotate_left
                · intro w'
                  go_simp
                  with_reducible rfl
                rotate_left
                · simp only [Act.put, List.setIfInBounds_toArray, List.set_cons_zero, List.set_cons_succ, i64_w, i32_w]
                  rfl
                refine pure_ (i := 1) (N := some 86) (v := ?_) (a' := ?_) #[true, true, false, false, false, false, false, false, false, false, false] rfl rfl (by kernel_rfl) (fun _ _ _ h => h) (Or.inl ⟨by rfl, ?_⟩) ?_ ?_
                rotate_left
                · intro w'
                  go_simp
                  with_reducible rfl
                rotate_left
                · simp only [Act.put, List.setIfInBounds_toArray, List.set_cons_zero, List.set_cons_succ, i64_w, i32_w]
                  rfl
                refine pure_ (i := 2) (N := some 87) (v := ?_) (a' := ?_) #[true, true, true, false, false, false, false, false, false, false, false] rfl rfl (by kernel_rfl) (fun _ _ _ h => h) (Or.inl ⟨by rfl, ?_⟩) ?_ ?_
                rotate_left
                · intro w'
                  go_simp
                  with_reducible rfl
                rotate_left
                · simp only [Act.put, List.setIfInBounds_toArray, List.set_cons_zero, List.set_cons_succ, i64_w, i32_w]
                  rfl
                refine take_ (i := 3) (N := some 88) (v := ?_) (a' := ?_) #[true, true, true, true, false, false, false, false, false, false, false] rfl rfl (by kernel_rfl) (fun _ _ _ h => h) (Or.inl ⟨by rfl, ?_⟩) hHeld ?_ ?_
                rotate_left
                · rintro w' ⟨s0, s1⟩
                  go_simp
                  with_reducible rfl
                rotate_left
                · simp only [Act.put, List.setIfInBounds_toArray, List.set_cons_zero, List.set_cons_succ, i64_w, i32_w]
                  rfl
                refine pure_ (i := 5) (N := some 90) (v := ?_) (a' := ?_) #[true, true, true, true, false, true, false, false, false, false, false] rfl rfl (by kernel_rfl) (fun _ _ _ h => h) (Or.inl ⟨by rfl, ?_⟩) ?_ ?_
                rotate_left
                · intro w'
                  go_simp
                  with_reducible rfl
                rotate_left
                · simp only [Act.put, List.setIfInBounds_toArray, List.set_cons_zero, List.set_cons_succ, i64_w, i32_w]
                  rfl
                refine pure_ (i := 6) (N := some 91) (v := ?_) (a' := ?_) #[true, true, true, true, false, true, true, false, false, false, false] rfl rfl (by kernel_rfl) (fun _ _ _ h => h) (Or.inl ⟨by rfl, ?_⟩) ?_ ?_
                rotate_left
                · intro w'
                  go_simp
                  with_reducible rfl
                rotate_left
                · simp only [Act.put, List.setIfInBounds_toArray, List.set_cons_zero, List.set_cons_succ, i64_w, i32_w]
                  rfl
                refine pure_ (i := 7) (N := some 92) (v := ?_) (a' := ?_) #[true, true, true, true, false, true, true, true, false, false, false] rfl rfl (by kernel_rfl) (fun _ _ _ h => h) (Or.inl ⟨by rfl, ?_⟩) ?_ ?_
                rotate_left
                · intro w'
                  go_simp
                  with_reducible rfl
                rotate_left
                · simp only [Act.put, List.setIfInBounds_toArray, List.set_cons_zero, List.set_cons_succ, i64_w, i32_w]
                  rfl
                refine take_ (i := 8) (N := some 93) (v := ?_) (a' := ?_) #[true, true, true, true, false, true, true, true, true, false, false] rfl rfl (by kernel_rfl) (fun _ _ _ h => h) (Or.inl ⟨by rfl, ?_⟩) hHeld ?_ ?_
                rotate_left
                · rintro w' ⟨s0, s1⟩
                  go_simp
                  with_reducible rfl
                rotate_left
                · simp only [Act.put, List.setIfInBounds_toArray, List.set_cons_zero, List.set_cons_succ, i64_w, i32_w]
                  rfl
                refine one_ (i := 4) (N := some 89) #[true, true, true, true, true, true, true, true, true, false, false] rfl rfl (by kernel_rfl) (by decide) (fun K hK => ?_)
                refine goes_ Tryd.func13 (by kernel_rfl) rfl #[P D9.d, .int .i64 0, .int .i64 0] (by rfl) rfl rfl (by (try simp only [List.map_toArray, List.map_cons, List.map_nil]); rfl) ?_
                refine (crash_w HBDb1.out.dw (plays_n HM.out HKK.out).1 (by decide) 0 0).mono ?_
                rintro e w8b1 ⟨D8b1, rfl, hb8b1, dwo, dx8, cr8, low8⟩
                obtain ⟨o8, r8, f8⟩ := HCUb1.out.crash HBDb1.out.dw.good dx8.good cr8
                have HB8b1 := hid hb8b1
                have HLOb1 := hid low8
                have HTOb1 := hid (told_w (A := none) (c := 0) HL.out dx8 (Calm.crash (R := 0) HBDb1.out.dw.good.room cr8) (plays_n HM.out HKK.out).2 (by decide) f8 r8 (HBDb1.out.row.to (own' := D8b1.own) (Fr.of_below hb8b1 []) (fun j hj => by simp at hj) (fun j hj => .inr (low8 j (.inl hj)))) (fun j hj => hj) (plays_gl1 HGN9.out HKK.out))
                clear dwo dx8 cr8 low8 o8 r8 f8
                refine ⟨_, rfl, ?_⟩
                refine hK.out _ _ ⟨(Below.cell HB8b1.out (a := ⟨x, 0, none⟩) HXLb1.out).trans q0b1, (Below.cell HB8b1.out (a := ⟨x, 2, none⟩) HXLb1.out).trans q2b1⟩ (fun hHeld => ?_)
                clear hK K
                refine norm_ (a' := ?_) ?_ ?_
                rotate_left
                · show Act.put _ (some 89) _ = _
                  simp only [Act.put, List.setIfInBounds_toArray, List.set_cons_zero, List.set_cons_succ, i64_w, i32_w]
                  rfl
                refine one_ (i := 9) (N := some 94) #[true, true, true, true, true, true, true, true, true, true, false] rfl rfl (by kernel_rfl) (by decide) (fun K hK => ?_)
                refine goes_ Tryd.func27 (by kernel_rfl) rfl #[P D8b1.d, .slice A7 G7.length c7] (by rfl) rfl rfl (by (try simp only [List.map_toArray, List.map_cons, List.map_nil]); rfl) ?_
                refine HTOb1.out.mono ?_
                rintro e wtb1 ⟨rfl, hft⟩
                have HB9b1 := hid (HB8b1.out.trans (hft.below HB8b1.out.size (fun j hj => HLOb1.out j (.inl hj))))
                clear hft
                refine ⟨_, rfl, ?_⟩
                refine hK.out _ _ ⟨(Below.cell HB9b1.out (a := ⟨x, 0, none⟩) HXLb1.out).trans q0b1, (Below.cell HB9b1.out (a := ⟨x, 2, none⟩) HXLb1.out).trans q2b1⟩ (fun hHeld => ?_)
                clear hK K
                refine norm_ (a' := ?_) ?_ ?_
                rotate_left
                · show Act.put _ (some 94) _ = _
                  simp only [Act.put, List.setIfInBounds_toArray, List.set_cons_zero, List.set_cons_succ, i64_w, i32_w]
                  rfl
                refine pure_ (i := 10) (N := some 26) (v := ?_) (a' := ?_) #[true, true, true, true, true, true, true, true, true, true, true] rfl rfl (by kernel_rfl) (fun _ _ _ h => h) (Or.inl ⟨by rfl, ?_⟩) ?_ ?_
                rotate_left
                · intro w'
                  go_simp
                  with_reducible rfl
                rotate_left
                · simp only [Act.put, List.setIfInBounds_toArray, List.set_cons_zero, List.set_cons_succ, i64_w, i32_w]
                  rfl
                refine done_ (by kernel_rfl) ?_
                have HBb1 := hid (HBDb1.out.new (Fr.of_below HB9b1.out []))
                have HLb1 := hid (HLDb1.out.new (Fr.of_below HB9b1.out []))
                clear hHeld q0b1 q2b1 HBDb1 HLDb1 HCUb1 HTOb1 HB8b1 HLOb1 HXLb1 HB9b1
                go_upto_region 18 with fail
                have HBDb2 := hid (HBb1.out.new (Fr.refl [] wtb1).drew)
                have HLDb2 := hid (HLb1.out.new (Fr.refl [] wtb1).drew)
                have q0b2 : wtb1.drew.cell? ⟨x, 0, none⟩ = some (P D9.d) := HBDb2.out.c0
                have q2b2 : wtb1.drew.cell? ⟨x, 2, none⟩ = some (.slice A7 G7.length c7) := HBDb2.out.c2
                have HCUb2 := hid (HLDb2.out.cuts HBDb2.out.dw.good)
                have HXLb2 := hid HBDb2.out.xlt
                refine start_ (n := 13) (S := fun w' => w'.cell? ⟨x, 0, none⟩ = some (P D9.d) ∧ w'.cell? ⟨x, 2, none⟩ = some (.slice A7 G7.length c7)) (ds := []) #[false, false, false, false, false, false, false, false, false, false, false, false, false] (by kernel_rfl) rfl rfl ⟨q0b2, q2b2⟩ (fun hHeld => ?_)
                refine pure_ (i := 0) (N := some 95) (v := ?_) (a' := ?_) #[true, false, false, false, false, false, false, false, false, false, false, false, false] rfl rfl (by kernel_rfl) (fun _ _ _ h => h) (Or.inl ⟨by rfl, ?_⟩) ?_ ?_
                rotate_left
                · intro w'
                  go_simp
                  with_reducible rfl
                rotate_left
                · simp only [Act.put, List.setIfInBounds_toArray, List.set_cons_zero, List.set_cons_succ, i64_w, i32_w]
                  rfl
                refine pure_ (i := 1) (N := some 96) (v := ?_) (a' := ?_) #[true, true, false, false, false, false, false, false, false, false, false, false, false] rfl rfl (by kernel_rfl) (fun _ _ _ h => h) (Or.inl ⟨by rfl, ?_⟩) ?_ ?_
                rotate_left
                · intro w'
                  go_simp
                  with_reducible rfl
                rotate_left
                · simp only [Act.put, List.setIfInBounds_toArray, List.set_cons_zero, List.set_cons_succ, i64_w, i32_w]
                  rfl
                refine pure_ (i := 2) (N := some 97) (v := ?_) (a' := ?_) #[true, true, true, false, false, false, false, false, false, false, false, false, false] rfl rfl (by kernel_rfl) (fun _ _ _ h => h) (Or.inl ⟨by rfl, ?_⟩) ?_ ?_
                rotate_left
                · intro w'
                  go_simp
                  with_reducible rfl
                rotate_left
                · simp only [Act.put, List.setIfInBounds_toArray, List.set_cons_zero, List.set_cons_succ, i64_w, i32_w]
                  rfl
                refine take_ (i := 3) (N := some 98) (v := ?_) (a' := ?_) #[true, true, true, true, false, false, false, false, false, false, false, false, false] rfl rfl (by kernel_rfl) (fun _ _ _ h => h) (Or.inl ⟨by rfl, ?_⟩) hHeld ?_ ?_
                rotate_left
                · rintro w' ⟨s0, s1⟩
                  go_simp
                  with_reducible rfl
                rotate_left
                · simp only [Act.put, List.setIfInBounds_toArray, List.set_cons_zero, List.set_cons_succ, i64_w, i32_w]
                  rfl
                refine pure_ (i := 4) (N := some 99) (v := ?_) (a' := ?_) #[true, true, true, true, true, false, false, false, false, false, false, false, false] rfl rfl (by kernel_rfl) (fun _ _ _ h => h) (Or.inl ⟨by rfl, ?_⟩) ?_ ?_
                rotate_left
                · intro w'
                  go_simp
                  with_reducible rfl
                rotate_left
                · simp only [Act.put, List.setIfInBounds_toArray, List.set_cons_zero, List.set_cons_succ, i64_w, i32_w]
                  rfl
                refine pure_ (i := 5) (N := some 100) (v := ?_) (a' := ?_) #[true, true, true, true, true, true, false, false, false, false, false, false, false] rfl rfl (by kernel_rfl) (fun _ _ _ h => h) (Or.inl ⟨by rfl, ?_⟩) ?_ ?_
                rotate_left
                · intro w'
                  go_simp
                  with_reducible rfl
                rotate_left
                · simp only [Act.put, List.setIfInBounds_toArray, List.set_cons_zero, List.set_cons_succ, i64_w, i32_w]
                  rfl
                refine pure_ (i := 7) (N := some 102) (v := ?_) (a' := ?_) #[true, true, true, true, true, true, false, true, false, false, false, false, false] rfl rfl (by kernel_rfl) (fun _ _ _ h => h) (Or.inl ⟨by rfl, ?_⟩) ?_ ?_
                rotate_left
                · intro w'
                  go_simp
                  with_reducible rfl
                rotate_left
                · simp only [Act.put, List.setIfInBounds_toArray, List.set_cons_zero, List.set_cons_succ, i64_w, i32_w]
                  rfl
                refine pure_ (i := 8) (N := some 103) (v := ?_) (a' := ?_) #[true, true, true, true, true, true, false, true, true, false, false, false, false] rfl rfl (by kernel_rfl) (fun _ _ _ h => h) (Or.inl ⟨by rfl, ?_⟩) ?_ ?_
                rotate_left
                · intro w'
                  go_simp
                  with_reducible rfl
                rotate_left
                · simp only [Act.put, List.setIfInBounds_toArray, List.set_cons_zero, List.set_cons_succ, i64_w, i32_w]
                  rfl
                refine pure_ (i := 9) (N := some 104) (v := ?_) (a' := ?_) #[true, true, true, true, true, true, false, true, true, true, false, false, false] rfl rfl (by kernel_rfl) (fun _ _ _ h => h) (Or.inl ⟨by rfl, ?_⟩) ?_ ?_
                rotate_left
                · intro w'
                  go_simp
                  with_reducible rfl
                rotate_left
                · simp only [Act.put, List.setIfInBounds_toArray, List.set_cons_zero, List.set_cons_succ, i64_w, i32_w]
                  rfl
                refine take_ (i := 10) (N := some 105) (v := ?_) (a' := ?_) #[true, true, true, true, true, true, false, true, true, true, true, false, false] rfl rfl (by kernel_rfl) (fun _ _ _ h => h) (Or.inl ⟨by rfl, ?_⟩) hHeld ?_ ?_
                rotate_left
                · rintro w' ⟨s0, s1⟩
                  go_simp
                  with_reducible rfl
                rotate_left
                · simp only [Act.put, List.setIfInBounds_toArray, List.set_cons_zero, List.set_cons_succ, i64_w, i32_w]
                  rfl
                refine one_ (i := 6) (N := some 101) #[true, true, true, true, true, true, true, true, true, true, true, false, false] rfl rfl (by kernel_rfl) (by decide) (fun K hK => ?_)
                refine goes_ Tryd.func13 (by kernel_rfl) rfl #[P D9.d, .int .i64 keep, .int .i64 torn] (by rfl) rfl rfl (by (try simp only [List.map_toArray, List.map_cons, List.map_nil]); rfl) ?_
                refine (crash_w HBDb2.out.dw (plays_n HM.out HKK.out).1 (by decide) keep torn).mono ?_
                rintro e w8b2 ⟨D8b2, rfl, hb8b2, dwo, dx8, cr8, low8⟩
                obtain ⟨o8, r8, f8⟩ := HCUb2.out.crash HBDb2.out.dw.good dx8.good cr8
                have HB8b2 := hid hb8b2
                have HLOb2 := hid low8
                have HTOb2 := hid (told_w (A := none) (c := 0) HL.out dx8 (Calm.crash (R := 0) HBDb2.out.dw.good.room cr8) (plays_n HM.out HKK.out).2 (by decide) f8 r8 (HBDb2.out.row.to (own' := D8b2.own) (Fr.of_below hb8b2 []) (fun j hj => by simp at hj) (fun j hj => .inr (low8 j (.inl hj)))) (fun j hj => hj) (plays_gl1 HGN9.out HKK.out))
                clear dwo dx8 cr8 low8 o8 r8 f8
                refine ⟨_, rfl, ?_⟩
                refine hK.out _ _ ⟨(Below.cell HB8b2.out (a := ⟨x, 0, none⟩) HXLb2.out).trans q0b2, (Below.cell HB8b2.out (a := ⟨x, 2, none⟩) HXLb2.out).trans q2b2⟩ (fun hHeld => ?_)
                clear hK K
                refine norm_ (a' := ?_) ?_ ?_
                rotate_left
                · show Act.put _ (some 101) _ = _
                  simp only [Act.put, List.setIfInBounds_toArray, List.set_cons_zero, List.set_cons_succ, i64_w, i32_w]
                  rfl
                refine one_ (i := 11) (N := some 106) #[true, true, true, true, true, true, true, true, true, true, true, true, false] rfl rfl (by kernel_rfl) (by decide) (fun K hK => ?_)
                refine goes_ Tryd.func27 (by kernel_rfl) rfl #[P D8b2.d, .slice A7 G7.length c7] (by rfl) rfl rfl (by (try simp only [List.map_toArray, List.map_cons, List.map_nil]); rfl) ?_
                refine HTOb2.out.mono ?_
                rintro e wtb2 ⟨rfl, hft⟩
                have HB9b2 := hid (HB8b2.out.trans (hft.below HB8b2.out.size (fun j hj => HLOb2.out j (.inl hj))))
                clear hft
                refine ⟨_, rfl, ?_⟩
                refine hK.out _ _ ⟨(Below.cell HB9b2.out (a := ⟨x, 0, none⟩) HXLb2.out).trans q0b2, (Below.cell HB9b2.out (a := ⟨x, 2, none⟩) HXLb2.out).trans q2b2⟩ (fun hHeld => ?_)
                clear hK K
                refine norm_ (a' := ?_) ?_ ?_
                rotate_left
                · show Act.put _ (some 106) _ = _
                  simp only [Act.put, List.setIfInBounds_toArray, List.set_cons_zero, List.set_cons_succ, i64_w, i32_w]
                  rfl
                refine pure_ (i := 12) (N := some 27) (v := ?_) (a' := ?_) #[true, true, true, true, true, true, true, true, true, true, true, true, true] rfl rfl (by kernel_rfl) (fun _ _ _ h => h) (Or.inl ⟨by rfl, ?_⟩) ?_ ?_
                rotate_left
                · intro w'
                  go_simp
                  with_reducible rfl
                rotate_left
                · simp only [Act.put, List.setIfInBounds_toArray, List.set_cons_zero, List.set_cons_succ, i64_w, i32_w]
                  rfl
                refine done_ (by kernel_rfl) ?_
                have HBb2 := hid (HBDb2.out.new (Fr.of_below HB9b2.out []))
                have HLb2 := hid (HLDb2.out.new (Fr.of_below HB9b2.out []))
                clear hHeld q0b2 q2b2 HBDb2 HLDb2 HCUb2 HTOb2 HB8b2 HLOb2 HXLb2 HB9b2
                go_upto_region 21 with fail
                have p2 := HBb2.out.c2
                have p1 := HBb2.out.c1
                have HBY := hid (bytes_calls HLb2.out)
                have HEN := hid (encs_most (G7) HBb2.out.row.2.1)
                have HMG := hid (plays_mg (mostG_le (G7) HBb2.out.row.2.1) HGN9.out HKK.out)
                have HRO := hid (fun hp => HBb2.out.row.rows hp)
                have HGK := hid HBb2.out.row.2.1
                obtain ⟨GG, hGG⟩ : ∃ X, X = G7 := ⟨_, rfl⟩
                rw [← hGG] at HBY HEN HMG HRO HGK p2 HBb2 HLb2
                try rw [← hGG]
                have HGE := hid hGG
                have HGL9 := hid (show GG.length ≤ nn + 1 from by rw [hGG]; exact HGN9.out)
                clear hGG
                have w30 := plays_w30 HGL9.out HKK.out
                have w100 := plays_w100 HGL9.out HKK.out
                go_wp2
                refine wp_loop_ghost_k (MostAt (some ⟨b2, o2, none⟩) n cap keep torn x nn GG wtb2) GG.length ?s3 ?r3
                case s3 => exact ⟨0, Nat.zero_le _, Nat.le_refl _, ⟨rfl, rfl, rfl, rfl, rfl, rfl, rfl⟩, (by show Value.int .i64 _ = _; first | rfl | (congr 1 <;> simp [mostG])), rfl, rfl⟩
                case r3 =>
                  clear w30 w100
                  intro g3 a wr hrel J3 K3 hJ3 hK3
                  obtain ⟨ii, hii, hg3, hfi, h28, h29, hwr⟩ := hrel
                  subst hwr
                  obtain ⟨hdf, hsz, h0, h1, h2, h9, h11⟩ := hfi
                  obtain ⟨tm, df⟩ := a
                  have hdf' : df = [] := hdf
                  subst hdf'
                  have hfr := frame339 tm hsz
                  have g0 : gv tm 0 = .slice (some ⟨b2, o2, none⟩) n cap := h0
                  have g1 : gv tm 1 = .int .i64 keep := h1
                  have g2 : gv tm 2 = .int .i64 torn := h2
                  have g9 : gv tm 9 = P x := h9
                  have g11 : gv tm 11 = .int .i64 nn := h11
                  have g28 : gv tm 28 = .int .i64 ((100 + 30 * GG.length + mostG (GG.take ii) : Nat) : Int) := h28
                  have g29 : gv tm 29 = .int .i64 ii := h29
                  rw [g0, g1, g2, g9, g11, g28, g29] at hfr
                  clear hdf hsz h0 h1 h2 h9 h11 h28 h29 g0 g1 g2 g9 g11 g28 g29
                  rw [hfr]
                  clear hfr
                  by_cases hil : ii < GG.length
                  · have hilz : (ii : Int) < (GG.length : Int) := Int.ofNat_lt.2 hil
                    obtain ⟨bG, oG, hAG, hbG, hrows⟩ := HRO.out (Nat.lt_of_le_of_lt (Nat.zero_le _) hil)
                    obtain ⟨A', c', hcell, hC⟩ := hrows ii hil
                    have HMT := hid (mostG_take hil)
                    have hgok := HGK.out _ (List.getElem_mem hil)
                    have HMB := hid (show mostG (GG.take ii) ≤ 140000000 from by have h1 := mostG_le (GG.take ii) (fun y hy => HGK.out y (List.mem_of_mem_take hy)); rw [List.length_take] at h1; have := HGL9.out; have := HKK.out; omega)
                    have HLB := hid (show GG.length ≤ 61 from by have := HGL9.out; have := HKK.out; omega)
                    subst hAG
                    generalize GG[ii] = g at *
                    have HGO := hid hgok
                    have HLI := hid (And.intro hii (And.intro hg3 hil))
                    have hiz := plays_i hil HLB.out
                    clear hrows hgok hii hg3
                    obtain ⟨B, hB⟩ : ∃ B, B = 100 + 30 * GG.length + mostG (GG.take ii) := ⟨_, rfl⟩
                    rw [← hB]
                    have HBB := hid hB
                    have HBL := hid (show B ≤ 141000000 from by have := HMB.out; have := HLB.out; omega)
                    clear hB
                    go_wp2
                    refine wp_loop_ghost_k (MoreAt (some ⟨b2, o2, none⟩) n cap keep torn x nn ii B g wr) g.length ?s5 ?r5
                    case s5 => exact ⟨0, Nat.zero_le _, Nat.le_refl _, ⟨rfl, rfl, rfl, rfl, rfl, rfl, rfl⟩, (by show Value.int .i64 _ = _; first | rfl | (congr 1 <;> simp)), rfl, rfl, rfl⟩
                    case r5 =>
                      intro g5 a wr hrel J5 K5 hJ5 hK5
                      obtain ⟨jj, hjj, hg5, hfi, h28, h29, h30, hwr⟩ := hrel
                      subst hwr
                      obtain ⟨hdf, hsz, h0, h1, h2, h9, h11⟩ := hfi
                      obtain ⟨tm, df⟩ := a
                      have hdf' : df = [] := hdf
                      subst hdf'
                      have hfr := frame339 tm hsz
                      have g0 : gv tm 0 = .slice (some ⟨b2, o2, none⟩) n cap := h0
                      have g1 : gv tm 1 = .int .i64 keep := h1
                      have g2 : gv tm 2 = .int .i64 torn := h2
                      have g9 : gv tm 9 = P x := h9
                      have g11 : gv tm 11 = .int .i64 nn := h11
                      have g28 : gv tm 28 = .int .i64 ((B + ((g.take jj).map fun s => 10 + s.size).sum : Nat) : Int) := h28
                      have g29 : gv tm 29 = .int .i64 ii := h29
                      have g30 : gv tm 30 = .int .i64 jj := h30
                      rw [g0, g1, g2, g9, g11, g28, g29, g30] at hfr
                      clear hdf hsz h0 h1 h2 h9 h11 h28 h29 h30 g0 g1 g2 g9 g11 g28 g29 g30
                      rw [hfr]
                      clear hfr
                      have HSL := hid (most_le HGO.out jj)
                      have HGL := hid HGO.out.1
                      by_cases hjl : jj < g.length
                      · have hjlz : (jj : Int) < (g.length : Int) := Int.ofNat_lt.2 hjl
                        obtain ⟨bT, oT, hAT, htx⟩ := C_text hC (Nat.lt_of_le_of_lt (Nat.zero_le _) hjl)
                        have hcs := htx jj hjl
                        have HST := hid (most_take hjl)
                        have HSZ := hid (HGO.out.one _ (List.getElem_mem hjl))
                        subst hAT
                        generalize g[jj] = st at *
                        obtain ⟨V, hV⟩ : ∃ V, V = B + ((g.take jj).map fun s => 10 + s.size).sum := ⟨_, rfl⟩
                        rw [← hV]
                        have HV := hid hV
                        have HVL := hid (show V ≤ 150000000 from by have := HBL.out; have := HSL.out; omega)
                        have w10 := plays_w10 HVL.out
                        have w11 := plays_w11 HVL.out HSZ.out
                        have hjn := plays_jn hjl HGL.out
                        have HJJ := hid (And.intro hjj (And.intro hg5 hjl))
                        clear hV htx hjj hg5
                        go_wp2
                        refine Handed.intro (g.length - (jj + 1)) (plays_dec HJJ.out.2.1 HJJ.out.2.2) (hJ5 _ _ _ ?_)
                        exact ⟨jj + 1, HJJ.out.2.2, Nat.le_refl _, ⟨rfl, rfl, rfl, rfl, rfl, rfl, (by first | rfl | skip)⟩, (by show Value.int .i64 _ = _; congr 1; rw [HST.out]; exact plays_sum HV.out HVL.out HSZ.out), rfl, (by first | rfl | (rw [hjn]; rfl) | (show Value.int .i64 _ = _; congr 1; omega)), rfl⟩
                      · have hjlz : ¬ (jj : Int) < (g.length : Int) := fun h => hjl (Int.ofNat_lt.1 h)
                        have hje : jj = g.length := by omega
                        have HV := hid (show B + ((g.take jj).map fun s => 10 + s.size).sum = 100 + 30 * GG.length + mostG (GG.take (ii + 1)) from by rw [hje, List.take_length, HMT.out, HBB.out]; omega)
                        clear hje hjj hg5
                        rw [HV.out]
                        obtain ⟨V, hV⟩ : ∃ V, V = 100 + 30 * GG.length + mostG (GG.take (ii + 1)) := ⟨_, rfl⟩
                        rw [← hV]
                        have HVV := hid hV
                        clear hV
                        go_wp2
                        refine Handed.intro (GG.length - (ii + 1)) (plays_dec HLI.out.2.1 HLI.out.2.2) (hJ3 _ _ _ ?_)
                        exact ⟨ii + 1, HLI.out.2.2, Nat.le_refl _, ⟨rfl, rfl, rfl, rfl, rfl, rfl, rfl⟩, (by show Value.int .i64 _ = _; rw [HVV.out]), (by first | rfl | (rw [hiz]; rfl) | (show Value.int .i64 _ = _; congr 1; omega)), rfl⟩
                  · have hilz : ¬ (ii : Int) < (GG.length : Int) := fun h => hil (Int.ofNat_lt.1 h)
                    have hie : ii = GG.length := by omega
                    have HMO := hid (show (encs GG).length ≤ 100 + 30 * GG.length + mostG (GG.take ii) from by rw [hie, List.take_length]; have := HEN.out; omega)
                    have HE0 := hid (show GG.length = 0 → (encs GG).length = 0 from fun h => by rw [List.eq_nil_of_length_eq_zero h]; rfl)
                    clear hie
                    generalize 100 + 30 * GG.length + mostG (GG.take ii) = mm at *
                    generalize (encs GG).length = en at *
                    have hb1 : ¬ (en : Int) < 0 := by omega
                    have hb2 : ¬ (mm : Int) < (en : Int) := by have := HMO.out; omega
                    by_cases hL0 : GG.length = 0
                    · have hen := HE0.out hL0
                      subst hen
                      have hGz : ((GG.length : Nat) : Int) = 0 := by omega
                      have hLb : ((GG.length : Int) == 0) = true := by rw [hGz]; rfl
                      go_wp2_with (go_at_call 28; refine HBY.out.mono ?_; rintro e w_ ⟨rfl, hww⟩; have hww2 := hww.symm; subst hww2)
                      refine Handed.intro (60 - (nn + 1)) (plays_me HGN.out.2 HKK.out) (hJ _ _ _ ?_)
                      exact ⟨nn + 1, M + 16, D9, k, _, _, t, _, F, HKK.out, Nat.le_refl _, rfl, rfl, rfl, rfl, rfl, rfl, (by first | rfl | (rw [hjz]; rfl) | (show Value.int .i64 _ = _; congr 1; omega)), hid (plays_m16 HM.out).1, HBb2, HLb2, HGL9, hid (plays_f5 HFL.out)⟩
                    · have hLb : ((GG.length : Int) == 0) = false := beq_eq_false_iff_ne.2 (by omega)
                      go_wp2_with (go_at_call 28; refine HBY.out.mono ?_; rintro e w_ ⟨rfl, hww⟩; have hww2 := hww.symm; subst hww2)
                      refine Handed.intro (60 - (nn + 1)) (plays_me HGN.out.2 HKK.out) (hJ _ _ _ ?_)
                      exact ⟨nn + 1, M + 16, D9, k, _, _, t, _, F, HKK.out, Nat.le_refl _, rfl, rfl, rfl, rfl, rfl, rfl, (by first | rfl | (rw [hjz]; rfl) | (show Value.int .i64 _ = _; congr 1; omega)), hid (plays_m16 HM.out).1, HBb2, HLb2, HGL9, hid (plays_f5 HFL.out)⟩
      · have hj2z := plays_nz hj2
        go_upto_region 57 with fail
        have HBDe := hid (HB0.out.new (Fr.refl [] wr).drew)
        have HLDe := hid (HLW0.out.new (Fr.refl [] wr).drew)
        have q0e : wr.drew.cell? ⟨x, 0, none⟩ = some (P D.d) := HBDe.out.c0
        have q2e : wr.drew.cell? ⟨x, 2, none⟩ = some (.slice Ag G.length cg) := HBDe.out.c2
        have HCUe := hid (HLDe.out.cuts HBDe.out.dw.good)
        have HXLe := hid HBDe.out.xlt
        refine start_ (n := 11) (S := fun w' => w'.cell? ⟨x, 0, none⟩ = some (P D.d) ∧ w'.cell? ⟨x, 2, none⟩ = some (.slice Ag G.length cg)) (ds := []) #[false, false, false, false, false, false, false, false, false, false, false] (by kernel_rfl) rfl rfl ⟨q0e, q2e⟩ (fun hHeld => ?_)
        refine pure_ (i := 0) (N := some 329) (v := ?_) (a' := ?_) #[true, false, false, false, false, false, false, false, false, false, false] rfl rfl (by kernel_rfl) (fun _ _ _ h => h) (Or.inl ⟨by rfl, ?_⟩) ?_ ?_
        rotate_left
        · intro w'
          go_simp
          with_reducible rfl
        rotate_left
        · simp only [Act.put, List.setIfInBounds_toArray, List.set_cons_zero, List.set_cons_succ, i64_w, i32_w]
          rfl
        refine pure_ (i := 1) (N := some 330) (v := ?_) (a' := ?_) #[true, true, false, false, false, false, false, false, false, false, false] rfl rfl (by kernel_rfl) (fun _ _ _ h => h) (Or.inl ⟨by rfl, ?_⟩) ?_ ?_
        rotate_left
        · intro w'
          go_simp
          with_reducible rfl
        rotate_left
        · simp only [Act.put, List.setIfInBounds_toArray, List.set_cons_zero, List.set_cons_succ, i64_w, i32_w]
          rfl
        refine pure_ (i := 2) (N := some 331) (v := ?_) (a' := ?_) #[true, true, true, false, false, false, false, false, false, false, false] rfl rfl (by kernel_rfl) (fun _ _ _ h => h) (Or.inl ⟨by rfl, ?_⟩) ?_ ?_
        rotate_left
        · intro w'
          go_simp
          with_reducible rfl
        rotate_left
        · simp only [Act.put, List.setIfInBounds_toArray, List.set_cons_zero, List.set_cons_succ, i64_w, i32_w]
          rfl
        refine take_ (i := 3) (N := some 332) (v := ?_) (a' := ?_) #[true, true, true, true, false, false, false, false, false, false, false] rfl rfl (by kernel_rfl) (fun _ _ _ h => h) (Or.inl ⟨by rfl, ?_⟩) hHeld ?_ ?_
        rotate_left
        · rintro w' ⟨s0, s1⟩
          go_simp
          with_reducible rfl
        rotate_left
        · simp only [Act.put, List.setIfInBounds_toArray, List.set_cons_zero, List.set_cons_succ, i64_w, i32_w]
          rfl
        refine pure_ (i := 5) (N := some 334) (v := ?_) (a' := ?_) #[true, true, true, true, false, true, false, false, false, false, false] rfl rfl (by kernel_rfl) (fun _ _ _ h => h) (Or.inl ⟨by rfl, ?_⟩) ?_ ?_
        rotate_left
        · intro w'
          go_simp
          with_reducible rfl
        rotate_left
        · simp only [Act.put, List.setIfInBounds_toArray, List.set_cons_zero, List.set_cons_succ, i64_w, i32_w]
          rfl
        refine pure_ (i := 6) (N := some 335) (v := ?_) (a' := ?_) #[true, true, true, true, false, true, true, false, false, false, false] rfl rfl (by kernel_rfl) (fun _ _ _ h => h) (Or.inl ⟨by rfl, ?_⟩) ?_ ?_
        rotate_left
        · intro w'
          go_simp
          with_reducible rfl
        rotate_left
        · simp only [Act.put, List.setIfInBounds_toArray, List.set_cons_zero, List.set_cons_succ, i64_w, i32_w]
          rfl
        refine pure_ (i := 7) (N := some 336) (v := ?_) (a' := ?_) #[true, true, true, true, false, true, true, true, false, false, false] rfl rfl (by kernel_rfl) (fun _ _ _ h => h) (Or.inl ⟨by rfl, ?_⟩) ?_ ?_
        rotate_left
        · intro w'
          go_simp
          with_reducible rfl
        rotate_left
        · simp only [Act.put, List.setIfInBounds_toArray, List.set_cons_zero, List.set_cons_succ, i64_w, i32_w]
          rfl
        refine take_ (i := 8) (N := some 337) (v := ?_) (a' := ?_) #[true, true, true, true, false, true, true, true, true, false, false] rfl rfl (by kernel_rfl) (fun _ _ _ h => h) (Or.inl ⟨by rfl, ?_⟩) hHeld ?_ ?_
        rotate_left
        · rintro w' ⟨s0, s1⟩
          go_simp
          with_reducible rfl
        rotate_left
        · simp only [Act.put, List.setIfInBounds_toArray, List.set_cons_zero, List.set_cons_succ, i64_w, i32_w]
          rfl
        refine one_ (i := 4) (N := some 333) #[true, true, true, true, true, true, true, true, true, false, false] rfl rfl (by kernel_rfl) (by decide) (fun K hK => ?_)
        refine goes_ Tryd.func13 (by kernel_rfl) rfl #[P D.d, .int .i64 0, .int .i64 0] (by rfl) rfl rfl (by (try simp only [List.map_toArray, List.map_cons, List.map_nil]); rfl) ?_
        refine (crash_w HBDe.out.dw (plays_60 HM.out hnn).1 (by decide) 0 0).mono ?_
        rintro e w8e ⟨D8e, rfl, hb8e, dwo, dx8, cr8, low8⟩
        obtain ⟨o8, r8, f8⟩ := HCUe.out.crash HBDe.out.dw.good dx8.good cr8
        have HB8e := hid hb8e
        have HLOe := hid low8
        have HTOe := hid (told_w (A := none) (c := 0) HL.out dx8 (Calm.crash (R := 0) HBDe.out.dw.good.room cr8) (plays_60 HM.out hnn).2 (by decide) f8 r8 (HBDe.out.row.to (own' := D8e.own) (Fr.of_below hb8e []) (fun j hj => by simp at hj) (fun j hj => .inr (low8 j (.inl hj)))) (fun j hj => hj) (plays_gl HG.out hnn))
        clear dwo dx8 cr8 low8 o8 r8 f8
        refine ⟨_, rfl, ?_⟩
        refine hK.out _ _ ⟨(Below.cell HB8e.out (a := ⟨x, 0, none⟩) HXLe.out).trans q0e, (Below.cell HB8e.out (a := ⟨x, 2, none⟩) HXLe.out).trans q2e⟩ (fun hHeld => ?_)
        clear hK K
        refine norm_ (a' := ?_) ?_ ?_
        rotate_left
        · show Act.put _ (some 333) _ = _
          simp only [Act.put, List.setIfInBounds_toArray, List.set_cons_zero, List.set_cons_succ, i64_w, i32_w]
          rfl
        refine one_ (i := 9) (N := some 338) #[true, true, true, true, true, true, true, true, true, true, false] rfl rfl (by kernel_rfl) (by decide) (fun K hK => ?_)
        refine goes_ Tryd.func27 (by kernel_rfl) rfl #[P D8e.d, .slice Ag G.length cg] (by rfl) rfl rfl (by (try simp only [List.map_toArray, List.map_cons, List.map_nil]); rfl) ?_
        refine HTOe.out.mono ?_
        rintro e wte ⟨rfl, hft⟩
        have HB9e := hid (HB8e.out.trans (hft.below HB8e.out.size (fun j hj => HLOe.out j (.inl hj))))
        clear hft
        refine ⟨_, rfl, ?_⟩
        refine hK.out _ _ ⟨(Below.cell HB9e.out (a := ⟨x, 0, none⟩) HXLe.out).trans q0e, (Below.cell HB9e.out (a := ⟨x, 2, none⟩) HXLe.out).trans q2e⟩ (fun hHeld => ?_)
        clear hK K
        refine norm_ (a' := ?_) ?_ ?_
        rotate_left
        · show Act.put _ (some 338) _ = _
          simp only [Act.put, List.setIfInBounds_toArray, List.set_cons_zero, List.set_cons_succ, i64_w, i32_w]
          rfl
        refine pure_ (i := 10) (N := some 6) (v := ?_) (a' := ?_) #[true, true, true, true, true, true, true, true, true, true, true] rfl rfl (by kernel_rfl) (fun _ _ _ h => h) (Or.inl ⟨by rfl, ?_⟩) ?_ ?_
        rotate_left
        · intro w'
          go_simp
          with_reducible rfl
        rotate_left
        · simp only [Act.put, List.setIfInBounds_toArray, List.set_cons_zero, List.set_cons_succ, i64_w, i32_w]
          rfl
        refine done_ (by kernel_rfl) ?_
        have HBe := hid (HBDe.out.new (Fr.of_below HB9e.out []))
        have HLe := hid (HLDe.out.new (Fr.of_below HB9e.out []))
        clear hHeld q0e q2e HBDe HLDe HCUe HTOe HB8e HLOe HXLe HB9e
        try go_wp2
        go_ret
        exact ⟨rfl, HBe.out.dw.bel⟩
    · have hj1z : ¬ (nn : Int) < (n : Int) := fun h => hj1 (Int.ofNat_lt.1 h)
      go_upto_region 57 with fail
      have HBDe := hid (HB0.out.new (Fr.refl [] wr).drew)
      have HLDe := hid (HLW0.out.new (Fr.refl [] wr).drew)
      have q0e : wr.drew.cell? ⟨x, 0, none⟩ = some (P D.d) := HBDe.out.c0
      have q2e : wr.drew.cell? ⟨x, 2, none⟩ = some (.slice Ag G.length cg) := HBDe.out.c2
      have HCUe := hid (HLDe.out.cuts HBDe.out.dw.good)
      have HXLe := hid HBDe.out.xlt
      refine start_ (n := 11) (S := fun w' => w'.cell? ⟨x, 0, none⟩ = some (P D.d) ∧ w'.cell? ⟨x, 2, none⟩ = some (.slice Ag G.length cg)) (ds := []) #[false, false, false, false, false, false, false, false, false, false, false] (by kernel_rfl) rfl rfl ⟨q0e, q2e⟩ (fun hHeld => ?_)
      refine pure_ (i := 0) (N := some 329) (v := ?_) (a' := ?_) #[true, false, false, false, false, false, false, false, false, false, false] rfl rfl (by kernel_rfl) (fun _ _ _ h => h) (Or.inl ⟨by rfl, ?_⟩) ?_ ?_
      rotate_left
      · intro w'
        go_simp
        with_reducible rfl
      rotate_left
      · simp only [Act.put, List.setIfInBounds_toArray, List.set_cons_zero, List.set_cons_succ, i64_w, i32_w]
        rfl
      refine pure_ (i := 1) (N := some 330) (v := ?_) (a' := ?_) #[true, true, false, false, false, false, false, false, false, false, false] rfl rfl (by kernel_rfl) (fun _ _ _ h => h) (Or.inl ⟨by rfl, ?_⟩) ?_ ?_
      rotate_left
      · intro w'
        go_simp
        with_reducible rfl
      rotate_left
      · simp only [Act.put, List.setIfInBounds_toArray, List.set_cons_zero, List.set_cons_succ, i64_w, i32_w]
        rfl
      refine pure_ (i := 2) (N := some 331) (v := ?_) (a' := ?_) #[true, true, true, false, false, false, false, false, false, false, false] rfl rfl (by kernel_rfl) (fun _ _ _ h => h) (Or.inl ⟨by rfl, ?_⟩) ?_ ?_
      rotate_left
      · intro w'
        go_simp
        with_reducible rfl
      rotate_left
      · simp only [Act.put, List.setIfInBounds_toArray, List.set_cons_zero, List.set_cons_succ, i64_w, i32_w]
        rfl
      refine take_ (i := 3) (N := some 332) (v := ?_) (a' := ?_) #[true, true, true, true, false, false, false, false, false, false, false] rfl rfl (by kernel_rfl) (fun _ _ _ h => h) (Or.inl ⟨by rfl, ?_⟩) hHeld ?_ ?_
      rotate_left
      · rintro w' ⟨s0, s1⟩
        go_simp
        with_reducible rfl
      rotate_left
      · simp only [Act.put, List.setIfInBounds_toArray, List.set_cons_zero, List.set_cons_succ, i64_w, i32_w]
        rfl
      refine pure_ (i := 5) (N := some 334) (v := ?_) (a' := ?_) #[true, true, true, true, false, true, false, false, false, false, false] rfl rfl (by kernel_rfl) (fun _ _ _ h => h) (Or.inl ⟨by rfl, ?_⟩) ?_ ?_
      rotate_left
      · intro w'
        go_simp
        with_reducible rfl
      rotate_left
      · simp only [Act.put, List.setIfInBounds_toArray, List.set_cons_zero, List.set_cons_succ, i64_w, i32_w]
        rfl
      refine pure_ (i := 6) (N := some 335) (v := ?_) (a' := ?_) #[true, true, true, true, false, true, true, false, false, false, false] rfl rfl (by kernel_rfl) (fun _ _ _ h => h) (Or.inl ⟨by rfl, ?_⟩) ?_ ?_
      rotate_left
      · intro w'
        go_simp
        with_reducible rfl
      rotate_left
      · simp only [Act.put, List.setIfInBounds_toArray, List.set_cons_zero, List.set_cons_succ, i64_w, i32_w]
        rfl
      refine pure_ (i := 7) (N := some 336) (v := ?_) (a' := ?_) #[true, true, true, true, false, true, true, true, false, false, false] rfl rfl (by kernel_rfl) (fun _ _ _ h => h) (Or.inl ⟨by rfl, ?_⟩) ?_ ?_
      rotate_left
      · intro w'
        go_simp
        with_reducible rfl
      rotate_left
      · simp only [Act.put, List.setIfInBounds_toArray, List.set_cons_zero, List.set_cons_succ, i64_w, i32_w]
        rfl
      refine take_ (i := 8) (N := some 337) (v := ?_) (a' := ?_) #[true, true, true, true, false, true, true, true, true, false, false] rfl rfl (by kernel_rfl) (fun _ _ _ h => h) (Or.inl ⟨by rfl, ?_⟩) hHeld ?_ ?_
      rotate_left
      · rintro w' ⟨s0, s1⟩
        go_simp
        with_reducible rfl
      rotate_left
      · simp only [Act.put, List.setIfInBounds_toArray, List.set_cons_zero, List.set_cons_succ, i64_w, i32_w]
        rfl
      refine one_ (i := 4) (N := some 333) #[true, true, true, true, true, true, true, true, true, false, false] rfl rfl (by kernel_rfl) (by decide) (fun K hK => ?_)
      refine goes_ Tryd.func13 (by kernel_rfl) rfl #[P D.d, .int .i64 0, .int .i64 0] (by rfl) rfl rfl (by (try simp only [List.map_toArray, List.map_cons, List.map_nil]); rfl) ?_
      refine (crash_w HBDe.out.dw (plays_60 HM.out hnn).1 (by decide) 0 0).mono ?_
      rintro e w8e ⟨D8e, rfl, hb8e, dwo, dx8, cr8, low8⟩
      obtain ⟨o8, r8, f8⟩ := HCUe.out.crash HBDe.out.dw.good dx8.good cr8
      have HB8e := hid hb8e
      have HLOe := hid low8
      have HTOe := hid (told_w (A := none) (c := 0) HL.out dx8 (Calm.crash (R := 0) HBDe.out.dw.good.room cr8) (plays_60 HM.out hnn).2 (by decide) f8 r8 (HBDe.out.row.to (own' := D8e.own) (Fr.of_below hb8e []) (fun j hj => by simp at hj) (fun j hj => .inr (low8 j (.inl hj)))) (fun j hj => hj) (plays_gl HG.out hnn))
      clear dwo dx8 cr8 low8 o8 r8 f8
      refine ⟨_, rfl, ?_⟩
      refine hK.out _ _ ⟨(Below.cell HB8e.out (a := ⟨x, 0, none⟩) HXLe.out).trans q0e, (Below.cell HB8e.out (a := ⟨x, 2, none⟩) HXLe.out).trans q2e⟩ (fun hHeld => ?_)
      clear hK K
      refine norm_ (a' := ?_) ?_ ?_
      rotate_left
      · show Act.put _ (some 333) _ = _
        simp only [Act.put, List.setIfInBounds_toArray, List.set_cons_zero, List.set_cons_succ, i64_w, i32_w]
        rfl
      refine one_ (i := 9) (N := some 338) #[true, true, true, true, true, true, true, true, true, true, false] rfl rfl (by kernel_rfl) (by decide) (fun K hK => ?_)
      refine goes_ Tryd.func27 (by kernel_rfl) rfl #[P D8e.d, .slice Ag G.length cg] (by rfl) rfl rfl (by (try simp only [List.map_toArray, List.map_cons, List.map_nil]); rfl) ?_
      refine HTOe.out.mono ?_
      rintro e wte ⟨rfl, hft⟩
      have HB9e := hid (HB8e.out.trans (hft.below HB8e.out.size (fun j hj => HLOe.out j (.inl hj))))
      clear hft
      refine ⟨_, rfl, ?_⟩
      refine hK.out _ _ ⟨(Below.cell HB9e.out (a := ⟨x, 0, none⟩) HXLe.out).trans q0e, (Below.cell HB9e.out (a := ⟨x, 2, none⟩) HXLe.out).trans q2e⟩ (fun hHeld => ?_)
      clear hK K
      refine norm_ (a' := ?_) ?_ ?_
      rotate_left
      · show Act.put _ (some 338) _ = _
        simp only [Act.put, List.setIfInBounds_toArray, List.set_cons_zero, List.set_cons_succ, i64_w, i32_w]
        rfl
      refine pure_ (i := 10) (N := some 6) (v := ?_) (a' := ?_) #[true, true, true, true, true, true, true, true, true, true, true] rfl rfl (by kernel_rfl) (fun _ _ _ h => h) (Or.inl ⟨by rfl, ?_⟩) ?_ ?_
      rotate_left
      · intro w'
        go_simp
        with_reducible rfl
      rotate_left
      · simp only [Act.put, List.setIfInBounds_toArray, List.set_cons_zero, List.set_cons_succ, i64_w, i32_w]
        rfl
      refine done_ (by kernel_rfl) ?_
      have HBe := hid (HBDe.out.new (Fr.of_below HB9e.out []))
      have HLe := hid (HLDe.out.new (Fr.of_below HB9e.out []))
      clear hHeld q0e q2e HBDe HLDe HCUe HTOe HB8e HLOe HXLe HB9e
      try go_wp2
      go_ret
      exact ⟨rfl, HBe.out.dw.bel⟩
end Go.Proofs.YthlmbgaipbjbhaaDoor.L
