/- The walk of LeanPuts. -/
import Derived.Test.YtbfkbbdjijlffaaU
import Derived.Deep.RegionHeld3
namespace Go.Proofs.Ytbfkbbdjijlffaa
open Go.RowKit Fl

theorem RAt.drew {w : World} {b : Nat} {X Y : Int} (h : RAt w b X Y) : RAt w.drew b X Y := h.kept ((Kept.refl (fun _ => False) w).drew) (fun h => h)

def PutsRel (w : World) (ba bb len : Nat) (i : Value) (wr : World) : Prop :=
  ∃ k : Nat, k ≤ len ∧ i = .int .i64 k ∧ ∃ X Y, At wr ba X Y ∧ RAt wr bb X Y ∧ Small X Y ∧ Kept (fun _ => False) w wr

set_option maxRecDepth 100000 in
set_option maxHeartbeats 2000000 in
theorem puts_law (w : World) (a : Option Addr) (len cap : Nat) (V N : Nat → Int) (q : Int) (hp : Puts w a len V N) (hl : len ≤ maxLen) :
    Calls Try.prog 4 #[.slice a len cap, .int .i64 q] w (PostV (.bool true) w) := by
  unfold maxLen at hl
  go_enter Try.func4, Try.ntmps4
  go_wp2_with fail
  refine (new_any _).mono ?_
  rintro e w1 ⟨rfl, a1, k1, z1⟩
  have Z1 := Lib.hid z1
  clear z1
  have l1 : w.heap.size < w1.heap.size := by have := Z1.out; omega
  go_wp2_with fail
  have a1' : At (w1.alloc (.cells #[.int .i64 0, .int .i64 0] 36)) w.heap.size 0 0 := a1.kept ((Kept.refl (fun _ => False) w1).alloc _) (fun h => h)
  have a2' : RAt (w1.alloc (.cells #[.int .i64 0, .int .i64 0] 36)) w1.heap.size 0 0 := ⟨by simp, by simp, by simp, by simp⟩
  have kk : Kept (fun _ => False) w (w1.alloc (.cells #[.int .i64 0, .int .i64 0] 36)) := k1.alloc _
  generalize hb1 : w1.heap.size = bb at *
  clear Z1 a1 k1
  go_loopw [7] (PutsRel w w.heap.size bb len) (fun i _ => len - (intOf i).toNat)
  case atStart =>
    exact ⟨0, Nat.zero_le _, rfl, 0, 0, a1', a2', by unfold Small; omega, kk⟩
  case round =>
    clear a1' a2' kk hb1
    obtain ⟨k, hk, rfl, X, Y, b1, b2, hs, kr⟩ := hrel
    by_cases hlt : k < len
    · obtain ⟨b, off, rfl, c0, c1, _, _⟩ := hp k hlt
      have hbl : b < w.heap.size := World.block_lt_of_cell? _ _ c0
      have c0' := kr.cell c0 (fun h => h)
      have c1' := kr.cell c1 (fun h => h)
      clear c0 c1
      go_wp2_with fail
      go_region_held3 (fun w' => w'.cell? ⟨b, off + k * 2, none⟩ = some (.int .i64 (V k)) ∧ w'.cell? ⟨b, off + k * 2 + 1, none⟩ = some (.int .i64 (N k)))
        (first | exact ⟨c0', c1'⟩ | exact ⟨k4.cell (p := ⟨b, off + k * 2, none⟩) c0' (by show ¬ b = w.heap.size; omega), k4.cell (p := ⟨b, off + k * 2 + 1, none⟩) c1' (by show ¬ b = w.heap.size; omega)⟩ | exact ⟨k5.cell (p := ⟨b, off + k * 2, none⟩) (k4.cell (p := ⟨b, off + k * 2, none⟩) c0' (by show ¬ b = w.heap.size; omega)) (by show ¬ b = bb; omega), k5.cell (p := ⟨b, off + k * 2 + 1, none⟩) (k4.cell (p := ⟨b, off + k * 2 + 1, none⟩) c1' (by show ¬ b = w.heap.size; omega)) (by show ¬ b = bb; omega)⟩)
        (first | (go_at_call 8; refine (put_any _ _ _ _ _ _ b1.drew hs).mono ?_; rintro e w4 ⟨rfl, b4, k4, z4⟩) | (go_at_call 11; refine (rput_any _ _ _ _ _ _ (b2.drew.kept k4 (by show ¬ bb = w.heap.size; omega)) hs).mono ?_; rintro e w5 ⟨rfl, b5, k5, z5⟩))
      have kr5 := ((kr.drew).into (Nat.le_refl _) k4).into (show w.heap.size ≤ bb by omega) k5
      have b4' := b4.kept k5 (by show ¬ w.heap.size = bb; omega)
      have hs' := hs.put (V k) (N k)
      generalize putX X Y (V k) (N k) = X' at *
      generalize putY X Y (V k) (N k) = Y' at *
      generalize putE X Y (V k) (N k) = E' at *
      have R := Lib.hid b5
      obtain ⟨d0, d1, _, _⟩ := b5
      rename_i hHeld _ _
      clear z4 z5 b1 b2 b4 k4 k5 kr c0' c1' hs hHeld
      go_wp2_with fail
      refine (parts_at _ _ _ _ b4').mono ?_
      rintro e w' ⟨rfl, rfl⟩
      go_wp2_with fail
      go_roundw
      case rel => exact ⟨k + 1, by omega, by go_num, X', Y', b4', R.out, hs', kr5⟩
      case measure => simp [intOf]; omega
    · have R := Lib.hid b2
      clear b2
      go_wp2_with fail
      refine (spun_at _ _ _ _ q b1).mono ?_
      rintro e w3 ⟨rfl, b3, k3, z3⟩
      have Z3 := Lib.hid z3
      clear z3
      go_wp2_with fail
      refine (parts_at _ _ _ _ b3).mono ?_
      rintro e w' ⟨rfl, rfl⟩
      go_wp2_with fail
      refine (rspun_any _ _ _ _ q (R.out.kept k3 (fun h => h)) hs).mono ?_
      rintro e w4 ⟨rfl, k4⟩
      go_wp2_with fail
      refine (unit_any _ _).mono ?_
      rintro e w' ⟨rfl, rfl⟩
      go_wp2_with fail
      refine (runit_any _ _).mono ?_
      rintro e w' ⟨rfl, rfl⟩
      go_wp2_with fail
      refine (live_any _).mono ?_
      rintro e w5 ⟨rfl, k5⟩
      have g0 := k5.cell (p := ⟨w4.heap.size, 0, none⟩) (v := .int .i64 (rotX q X Y)) (by simp) (fun h => h)
      have g1 := k5.cell (p := ⟨w4.heap.size, 1, none⟩) (v := .int .i64 (rotY q X Y)) (by simp) (fun h => h)
      have kf := (((kr.trans k3).trans k4).alloc _).trans k5
      clear k5 k4 k3 kr b3 b1
      go_wp2_with fail
      go_ret
      exact ⟨rfl, kf⟩
end Go.Proofs.Ytbfkbbdjijlffaa
