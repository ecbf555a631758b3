/- ReadAt with the power gone. -/
import Derived.Test.YtgcenkmekpaapaaSync
namespace Go.Proofs.Ytgcenkmekpaapaa.L
open Go.RowKit Go.Lib Go.Maps
open Go.Proofs.YtgcenkmekpaapaaW.PrintWords Go.Proofs.YtgcenkmekpaapaaW.PrintLast Go.Proofs.YtgcenkmekpaapaaW.PrintMore
section
variable {w : World} {D : Dk}
set_option maxHeartbeats 4000000 in
set_option maxRecDepth 100000 in
theorem readat_dead (h : DkAt w D) (hd : D.dead = true) (s : ByteArray) (a n : Int) :
    Calls Try.prog 25 #[P D.d, .string s, .int .i64 a, .int .i64 n] w fun e w' => e = .returned (.tuple #[.slice none 0 0, .int .i64 35]) ∧ Goes w w' D { D with off := true } := by
  have HS := hid (fun (W : World) (f : Fr [] w W) (A : Option Addr) (n c : Nat) => starts_dead (h.new f) hd true A n c)
  have HF := hid (fun (o1 : Obj) => (Fr.alloc [] w o1 : Fr [] w _))
  clear h
  go_enter Try.func25, Try.ntmps25
  go_wp2_with (go_at_call 26; refine (HS.out _ (HF.out _) _ _ _).mono ?_; rintro e w1 ⟨rfl, h1, f1⟩; have G1 := hid (Goes.dead h1 ((HF.out _).none.trans f1 (fun _ hk => .inl hk))); clear h1 f1)
  go_ret2
  exact ⟨rfl, G1.out⟩
end
end Go.Proofs.Ytgcenkmekpaapaa.L
