/- FrameWraps' walk. -/
import Derived.Test.YtfminplenemfnaaK
import Derived.Deep.RegionWith
namespace Go.Proofs.Ytfminplenemfnaa
open Go.RowKit

theorem wraps_long (w : World) (g : Nat) (v : Value) (l : List Int) (hv : SlA w g v l) (hl : 4096 < l.length) :
    Calls Try.prog 3 #[v] w fun e w' => e = .returned (.bool true) ∧ Kept (fun _ => False) w w' := by
  have hw := wrap_long w g v l hv hl
  obtain ⟨A, cap, rfl, hcap, hx⟩ := hv.toN
  have hl2 : (4096 : Int) < (l.length : Int) := by omega
  clear hx hv
  go_enter Try.func3, Try.ntmps3
  go_wp2_with fail
  refine hw.mono ?_
  rintro e w1 ⟨rfl, rfl⟩
  go_wp2_with fail
  refine (live_any _).mono ?_
  rintro e w2 ⟨rfl, k2⟩
  go_wp2_with fail
  go_ret
  exact ⟨rfl, k2⟩

set_option maxHeartbeats 2000000 in
theorem wraps_short (w : World) (g : Nat) (v : Value) (l : List Int) (hv : SlA w g v l) (hl : l.length ≤ 4096) :
    Calls Try.prog 3 #[v] w fun e w' => e = .returned (.bool true) ∧ Kept (fun _ => False) w w' := by
  have hw := wrap_short w g v l hv hl
  obtain ⟨A, cap, rfl, hcap, hx⟩ := hv.toN
  have hl2 : ¬ (4096 : Int) < (l.length : Int) := by omega
  go_enter Try.func3, Try.ntmps3
  go_wp2_with fail
  refine hw.mono ?_
  rintro e w1 ⟨vW, rfl, r1, k1, j1⟩
  go_wp2_with fail
  go_region_with (first
    | (go_at_call 8; refine (live_any _).mono ?_; rintro e w2 ⟨rfl, k2⟩
       have k2' : Kept (fun _ => False) w1 w2 := Kept.trans ((Kept.refl _ w1).drew) k2
       have hcv2 := conv_OR (r1.kept k2' (fun _ _ q => q)))
    | (go_at_call 9; refine (refwrap_any _ g _ l (hv.kept (k1.trans k2') (fun q => q)) hl).mono ?_; rintro e w3 ⟨vR, rfl, r3, k3, j3⟩
       have hcv3 := conv_OR r3
       have hcv4 := conv_OR (r1.kept (k2'.trans k3) (fun _ _ q => q))))
  all_goals go_wp2_with fail
  all_goals go_ret
  all_goals exact ⟨rfl, (k1.trans k2').trans k3⟩
end Go.Proofs.Ytfminplenemfnaa
