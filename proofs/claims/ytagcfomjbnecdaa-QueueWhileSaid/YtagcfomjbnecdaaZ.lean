/- QueueWhile, every length. -/
import Derived.Test.YtagcfomjbnecdaaY
import Derived.Deep.SlicePairs
namespace Go.Proofs.Ytagcfomjbnecdaa
open Go.RowKit Go.ChangeShapes Go.Deep

theorem nil_cap {H : Type} {enc : TypeId × Value → H} {W : World} {held : Bool} {fuel : Nat} {a : Option Addr} {len cap : Nat} {x : DataW H × List MemPlace}
    (h : DataW.trod enc Try.prog W 0 (fun _ => true) held fuel 30 [.slice a len cap] = some x) (ha : a = none) : cap = 0 := by
  rcases open_slice_pairs Try.underlying30 Try.underlying27 (by kernel_rfl) rfl rfl (by kernel_rfl) (by kernel_rfl) h with ⟨hcs, _⟩ | ⟨ad, len', cap', m, n, V0, V1, D0, D1, P0, P1, hcs, _⟩
  · injection hcs with hcs
    injection hcs with _ _ h3
  · injection hcs with hcs
    injection hcs with h1 _ _
    rw [ha] at h1
    cases h1

theorem while_long (w : World) (A : Option Addr) (n cap : Nat) (bound : Int) (hm : 200 < n) : Calls Try.prog 5 #[.slice A n cap, .int .i64 bound] w fun e w' => e = .returned (.bool true) ∧ Kept (fun _ => False) w w' := by
  have hmi : (200 : Int) < (n : Int) := by omega
  have k0 : Kept (fun _ => False) w (w.alloc (.cells #[.int .i64 bound] 3)) := (Kept.refl _ w).alloc _
  go_enter Try.func5, Try.ntmps5
  go_wp2_with fail
  refine (live_any _).mono ?_
  rintro e w2 ⟨rfl, k2⟩
  go_wp2_with fail
  go_ret
  exact ⟨rfl, k0.trans k2⟩
theorem while_law (w : World) (a : Option Addr) (len cap : Nat) (L : List J) (bound : Int) (hL : L.length = len) (h : JS w (fun k => w.heap.size ≤ k) a L) (hA : a = none → cap = 0) :
    Calls Try.prog 5 #[.slice a len cap, .int .i64 bound] w fun e w' => e = .returned (.bool true) ∧ Kept (fun _ => False) w w' := by
  rcases Nat.lt_or_ge 200 len with q | q
  · exact while_long w a len cap bound q
  · subst hL
    exact while_short w a cap L bound h hA q

end Go.Proofs.Ytagcfomjbnecdaa
