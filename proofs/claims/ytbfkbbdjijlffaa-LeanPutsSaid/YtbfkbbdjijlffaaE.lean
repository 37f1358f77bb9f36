/- Contract of 'live'. -/
import Derived.Test.YtbfkbbdjijlffaaD
namespace Go.Proofs.Ytbfkbbdjijlffaa
open Go.RowKit Fl

/-- v is returned; no block that was there has changed. -/
def PostV (v : Value) (w : World) (e : Ending) (w' : World) : Prop := e = .returned v ∧ Kept (fun _ => False) w w'

theorem Kept.into {w w1 w2 : World} {b : Nat} (h : Kept (fun _ => False) w w1) (hb : w.heap.size ≤ b) (k : Kept (· = b) w1 w2) : Kept (fun _ => False) w w2 :=
  ⟨k.os.trans h.os, k.tape.trans h.tape, k.output.trans h.output, Nat.le_trans h.size k.size,
    fun i hi hn => (k.block i (Nat.lt_of_lt_of_le hi h.size) (by omega)).trans (h.block i hi hn)⟩

set_option maxHeartbeats 800000 in
theorem live_any (w : World) : Calls Try.prog 6 #[] w (PostV (.bool true) w) := by
  have small0 : Small 0 0 := by unfold Small; omega
  have small1 : Small 0 2 := by unfold Small; omega
  have small2 : Small 0 1 := by unfold Small; omega
  have small3 : Small 5 1 := by unfold Small; omega
  go_enter Try.func6, Try.ntmps6
  go_wp2_with fail
  refine (new_any _).mono ?_
  rintro e w1 ⟨rfl, a1, k1, z1⟩
  have Z1 := Lib.hid z1
  clear z1
  go_wp2_with fail
  refine (put_any _ _ _ _ _ _ a1 small0).mono ?_
  have e1 : putE 0 0 1 2 = 0 := by decide
  have e2 : putX 0 0 1 2 = 0 := by decide
  have e3 : putY 0 0 1 2 = 2 := by decide
  rw [e1, e2, e3]
  rintro e w2 ⟨rfl, a2, k2, z2⟩
  clear e1 e2 e3 z2
  go_wp2_with fail
  refine (put_any _ _ _ _ _ _ a2 small1).mono ?_
  have e1 : putE 0 2 3 1 = 0 := by decide
  have e2 : putX 0 2 3 1 = 0 := by decide
  have e3 : putY 0 2 3 1 = 1 := by decide
  rw [e1, e2, e3]
  rintro e w3 ⟨rfl, a3, k3, z3⟩
  clear e1 e2 e3 z3
  go_wp2_with fail
  refine (put_any _ _ _ _ _ _ a3 small2).mono ?_
  have e1 : putE 0 1 0 5 = 0 := by decide
  have e2 : putX 0 1 0 5 = 5 := by decide
  have e3 : putY 0 1 0 5 = 1 := by decide
  rw [e1, e2, e3]
  rintro e w4 ⟨rfl, a4, k4, z4⟩
  clear e1 e2 e3 z4
  go_wp2_with fail
  refine (parts_at _ _ _ _ a4).mono ?_
  rintro e w' ⟨rfl, rfl⟩
  go_wp2_with fail
  refine (spun_at _ _ _ _ _ a4).mono ?_
  have e2 : rotX 1 5 1 = -1 := by decide
  have e3 : rotY 1 5 1 = 5 := by decide
  rw [e2, e3]
  rintro e w5 ⟨rfl, a5, k5, z5⟩
  have Z5 := Lib.hid z5
  clear e2 e3 z5
  go_wp2_with fail
  refine (parts_at _ _ _ _ a5).mono ?_
  rintro e w' ⟨rfl, rfl⟩
  go_wp2_with fail
  refine (put_any _ _ _ _ _ _ (a4.kept k5 (fun h => h)) small3).mono ?_
  have e1 : putE 5 1 0 2097152 = 2 := by decide
  rw [e1]
  rintro e w6 ⟨rfl, a6, k6, z6⟩
  clear e1 z6
  go_wp2_with fail
  go_ret
  exact ⟨rfl, (((((k1.into (Nat.le_refl _) k2).into (Nat.le_refl _) k3).into (Nat.le_refl _) k4).trans k5).into (Nat.le_refl _) k6)⟩

end Go.Proofs.Ytbfkbbdjijlffaa
