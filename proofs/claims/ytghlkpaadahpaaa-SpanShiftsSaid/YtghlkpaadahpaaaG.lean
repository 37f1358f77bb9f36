/- Contracts of Relate, the program's. -/
import Derived.Test.YtghlkpaadahpaaaD
import Derived.Deep.RegionHeld3
namespace Go.Proofs.Ytghlkpaadahpaaa
open Go.RowKit Fl

def relI (a b c d : Int) : Int := if b < c then 1 else if b = c then 2 else if a = d then 12 else if d < a then 13 else 7 - 3 * sgnI (c - a) - sgnI (d - b)
def rlE (a b c d : Int) : Int := if mayB a b = true ∧ mayB c d = true then 0 else 14
def rlN (a b c d : Int) : Int := if mayB a b = true ∧ mayB c d = true then relI a b c d else 0
theorem rl_no1 {a b c d : Int} (h1 : mayB a b = false) : rlN a b c d = 0 ∧ rlE a b c d = 14 := by simp [rlE, rlN, h1]
theorem rl_no2 {a b c d : Int} (h2 : mayB c d = false) : rlN a b c d = 0 ∧ rlE a b c d = 14 := by simp [rlE, rlN, h2]
theorem rl_yes {a b c d : Int} (h1 : mayB a b = true) (h2 : mayB c d = true) : rlN a b c d = relI a b c d ∧ rlE a b c d = 0 := by simp [rlE, rlN, h1, h2]

theorem held {W W' : World} {n : Nat} {a b c d : Value} (hb : Below W.heap.size W W') (hn : n + 1 < W.heap.size)
    (h : W.cell? ⟨n, 0, none⟩ = some a ∧ W.cell? ⟨n, 1, none⟩ = some b ∧ W.cell? ⟨n + 1, 0, none⟩ = some c ∧ W.cell? ⟨n + 1, 1, none⟩ = some d) :
    W'.cell? ⟨n, 0, none⟩ = some a ∧ W'.cell? ⟨n, 1, none⟩ = some b ∧ W'.cell? ⟨n + 1, 0, none⟩ = some c ∧ W'.cell? ⟨n + 1, 1, none⟩ = some d := by
  rw [hb.cell (p := ⟨n, 0, none⟩) (show n < W.heap.size by omega), hb.cell (p := ⟨n, 1, none⟩) (show n < W.heap.size by omega), hb.cell (p := ⟨n + 1, 0, none⟩) hn, hb.cell (p := ⟨n + 1, 1, none⟩) hn]
  exact h

theorem cmul_sub {a b a' b' : Nat} {x y x' y' : Int} (ha : FI a x) (hb : FI b y) (ha' : FI a' x') (hb' : FI b' y') (h1 : (x - x').natAbs < 2 ^ 53) (h2 : (y - y').natAbs < 2 ^ 53) :
    ∃ u v, (∀ w, (binOp .sub 42 (.complex .f64 a b) (.complex .f64 a' b')).run Try.prog w = .ok (.complex .f64 u v) w) ∧ FI u (x - x') ∧ FI v (y - y') := by
  obtain ⟨u, hu, fu⟩ := sub_FI ha ha' h1
  obtain ⟨v, hv, fv⟩ := sub_FI hb hb' h2
  exact ⟨u, v, fun w => run_complex_sum w .sub (.inr rfl) 42 .f64 _ _ _ _ _ _ (by unfold cSumBits; rw [hu, hv]; rfl), fu, fv⟩

set_option maxHeartbeats 2000000 in
theorem relate_1 (w : World) (a b c d : Int) (h1 : mayB a b = true) (h2 : mayB c d = true) (hx0 : b < c) : Calls Try.prog 10 #[sp a b, sp c d] w (PV (.tuple #[.int .i64 1, .int .i64 0]) w) := by

  obtain ⟨g0, g1, g2, g3, g4⟩ := may_iff.1 h1
  obtain ⟨k0, k1, k2, k3, k4⟩ := may_iff.1 h2
  have s1 : sgnI (c - b) = 1 := sgn_pos (by omega)
  have s2 : sgnI (d - a) = 1 := sgn_pos (by omega)
  go_enter Try.func10, Try.ntmps10
  go_wp2_with fail
  refine (may_of _ _ _ _ h1).mono ?_
  rintro e wA ⟨rfl, hbA⟩
  obtain ⟨c0, c1, c2, c3⟩ := held (n := w.heap.size) (a := .int .i64 a) (b := .int .i64 b) (c := .int .i64 c) (d := .int .i64 d) hbA (by simp) ⟨by simp [go_sem], by simp [go_sem], by simp [go_sem], by simp [go_sem]⟩
  have KA : Below w.heap.size w wA := (((Below.refl _ _).alloc (Nat.le_refl _) _).alloc (by simp) _).trans (hbA.mono (by simp; omega))
  have zA : w.heap.size + 1 < wA.heap.size := by have := hbA.size; simp at this; omega
  clear hbA
  go_wp2_with fail
  refine (may_of _ _ _ _ h2).mono ?_
  rintro e wB ⟨rfl, hbB⟩
  obtain ⟨d0, d1, d2, d3⟩ := held hbB zA ⟨c0, c1, c2, c3⟩
  have KB : Below w.heap.size w wB := KA.trans (hbB.mono (by omega))
  have zB : w.heap.size + 1 < wB.heap.size := by have := hbB.size; omega
  clear hbB c0 c1 c2 c3 zA KA
  go_wp2_with fail
  go_region_held3 (fun w' => w'.cell? ⟨w.heap.size, 0, none⟩ = some (.int .i64 a) ∧ w'.cell? ⟨w.heap.size, 1, none⟩ = some (.int .i64 b) ∧ w'.cell? ⟨w.heap.size + 1, 0, none⟩ = some (.int .i64 c) ∧ w'.cell? ⟨w.heap.size + 1, 1, none⟩ = some (.int .i64 d))
    (first | exact ⟨d0, d1, d2, d3⟩ | exact held hp1 (by simpa using zB) ⟨d0, d1, d2, d3⟩ | exact held hp2 zp1 (held hp1 (by simpa using zB) ⟨d0, d1, d2, d3⟩))
    (first | (go_at_call 29; (with_reducible refine (point_any _ c d (by omega) (by omega)).mono ?_); rintro e p1 ⟨x1, y1, rfl, fx1, fy1, hp1⟩; have zp1 : w.heap.size + 1 < p1.heap.size := (by have := hp1.size; (try simp at this); omega)) | (go_at_call 29; (with_reducible refine (point_any _ a b (by omega) (by omega)).mono ?_); rintro e p2 ⟨x2, y2, rfl, fx2, fy2, hp2⟩; have zp2 : w.heap.size + 1 < p2.heap.size := (by have := hp2.size; (try simp at this); omega)) | (go_at_call 30; (with_reducible refine (swap_any _ _ _ a b fx2 fy2).mono ?_); rintro e w' ⟨x0, y0, rfl, fx0, fy0, rfl⟩; obtain ⟨u, v, hsub, fu, fv⟩ := cmul_sub fx1 fy1 fx0 fy0 (by omega) (by omega)))
  have K2 : Below w.heap.size w p2 := ((KB.drew).trans (hp1.mono (by simp; omega))).trans (hp2.mono (by omega))
  clear d0 d1 d2 d3 hp1 hp2 hsub KB zB
  go_wp2_with (first | (go_at_call 31; (with_reducible refine (sign_of _ _ (c - b) _ fu s1).mono ?_); rintro e w' ⟨rfl, rfl⟩) | (go_at_call 31; (with_reducible refine (sign_of _ _ (d - a) _ fv s2).mono ?_); rintro e w' ⟨rfl, rfl⟩))
  go_ret2
  exact ⟨rfl, K2⟩


set_option maxHeartbeats 2000000 in
theorem relate_2 (w : World) (a b c d : Int) (h1 : mayB a b = true) (h2 : mayB c d = true) (hx0 : b = c) : Calls Try.prog 10 #[sp a b, sp c d] w (PV (.tuple #[.int .i64 2, .int .i64 0]) w) := by

  obtain ⟨g0, g1, g2, g3, g4⟩ := may_iff.1 h1
  obtain ⟨k0, k1, k2, k3, k4⟩ := may_iff.1 h2
  have s1 : sgnI (c - b) = 0 := sgn_zero (by omega)
  have s2 : sgnI (d - a) = 1 := sgn_pos (by omega)
  clear hx0
  go_enter Try.func10, Try.ntmps10
  go_wp2_with fail
  refine (may_of _ _ _ _ h1).mono ?_
  rintro e wA ⟨rfl, hbA⟩
  obtain ⟨c0, c1, c2, c3⟩ := held (n := w.heap.size) (a := .int .i64 a) (b := .int .i64 b) (c := .int .i64 c) (d := .int .i64 d) hbA (by simp) ⟨by simp [go_sem], by simp [go_sem], by simp [go_sem], by simp [go_sem]⟩
  have KA : Below w.heap.size w wA := (((Below.refl _ _).alloc (Nat.le_refl _) _).alloc (by simp) _).trans (hbA.mono (by simp; omega))
  have zA : w.heap.size + 1 < wA.heap.size := by have := hbA.size; simp at this; omega
  clear hbA
  go_wp2_with fail
  refine (may_of _ _ _ _ h2).mono ?_
  rintro e wB ⟨rfl, hbB⟩
  obtain ⟨d0, d1, d2, d3⟩ := held hbB zA ⟨c0, c1, c2, c3⟩
  have KB : Below w.heap.size w wB := KA.trans (hbB.mono (by omega))
  have zB : w.heap.size + 1 < wB.heap.size := by have := hbB.size; omega
  clear hbB c0 c1 c2 c3 zA KA
  go_wp2_with fail
  go_region_held3 (fun w' => w'.cell? ⟨w.heap.size, 0, none⟩ = some (.int .i64 a) ∧ w'.cell? ⟨w.heap.size, 1, none⟩ = some (.int .i64 b) ∧ w'.cell? ⟨w.heap.size + 1, 0, none⟩ = some (.int .i64 c) ∧ w'.cell? ⟨w.heap.size + 1, 1, none⟩ = some (.int .i64 d))
    (first | exact ⟨d0, d1, d2, d3⟩ | exact held hp1 (by simpa using zB) ⟨d0, d1, d2, d3⟩ | exact held hp2 zp1 (held hp1 (by simpa using zB) ⟨d0, d1, d2, d3⟩))
    (first | (go_at_call 29; (with_reducible refine (point_any _ c d (by omega) (by omega)).mono ?_); rintro e p1 ⟨x1, y1, rfl, fx1, fy1, hp1⟩; have zp1 : w.heap.size + 1 < p1.heap.size := (by have := hp1.size; (try simp at this); omega)) | (go_at_call 29; (with_reducible refine (point_any _ a b (by omega) (by omega)).mono ?_); rintro e p2 ⟨x2, y2, rfl, fx2, fy2, hp2⟩; have zp2 : w.heap.size + 1 < p2.heap.size := (by have := hp2.size; (try simp at this); omega)) | (go_at_call 30; (with_reducible refine (swap_any _ _ _ a b fx2 fy2).mono ?_); rintro e w' ⟨x0, y0, rfl, fx0, fy0, rfl⟩; obtain ⟨u, v, hsub, fu, fv⟩ := cmul_sub fx1 fy1 fx0 fy0 (by omega) (by omega)))
  have K2 : Below w.heap.size w p2 := ((KB.drew).trans (hp1.mono (by simp; omega))).trans (hp2.mono (by omega))
  clear d0 d1 d2 d3 hp1 hp2 hsub KB zB
  go_wp2_with (first | (go_at_call 31; (with_reducible refine (sign_of _ _ (c - b) _ fu s1).mono ?_); rintro e w' ⟨rfl, rfl⟩) | (go_at_call 31; (with_reducible refine (sign_of _ _ (d - a) _ fv s2).mono ?_); rintro e w' ⟨rfl, rfl⟩))
  go_ret2
  exact ⟨rfl, K2⟩


set_option maxHeartbeats 2000000 in
theorem relate_12 (w : World) (a b c d : Int) (h1 : mayB a b = true) (h2 : mayB c d = true) (hx0 : c < b) (hx1 : a = d) : Calls Try.prog 10 #[sp a b, sp c d] w (PV (.tuple #[.int .i64 12, .int .i64 0]) w) := by

  obtain ⟨g0, g1, g2, g3, g4⟩ := may_iff.1 h1
  obtain ⟨k0, k1, k2, k3, k4⟩ := may_iff.1 h2
  have s1 : sgnI (c - b) = -1 := sgn_neg (by omega)
  have s2 : sgnI (d - a) = 0 := sgn_zero (by omega)
  clear hx1
  go_enter Try.func10, Try.ntmps10
  go_wp2_with fail
  refine (may_of _ _ _ _ h1).mono ?_
  rintro e wA ⟨rfl, hbA⟩
  obtain ⟨c0, c1, c2, c3⟩ := held (n := w.heap.size) (a := .int .i64 a) (b := .int .i64 b) (c := .int .i64 c) (d := .int .i64 d) hbA (by simp) ⟨by simp [go_sem], by simp [go_sem], by simp [go_sem], by simp [go_sem]⟩
  have KA : Below w.heap.size w wA := (((Below.refl _ _).alloc (Nat.le_refl _) _).alloc (by simp) _).trans (hbA.mono (by simp; omega))
  have zA : w.heap.size + 1 < wA.heap.size := by have := hbA.size; simp at this; omega
  clear hbA
  go_wp2_with fail
  refine (may_of _ _ _ _ h2).mono ?_
  rintro e wB ⟨rfl, hbB⟩
  obtain ⟨d0, d1, d2, d3⟩ := held hbB zA ⟨c0, c1, c2, c3⟩
  have KB : Below w.heap.size w wB := KA.trans (hbB.mono (by omega))
  have zB : w.heap.size + 1 < wB.heap.size := by have := hbB.size; omega
  clear hbB c0 c1 c2 c3 zA KA
  go_wp2_with fail
  go_region_held3 (fun w' => w'.cell? ⟨w.heap.size, 0, none⟩ = some (.int .i64 a) ∧ w'.cell? ⟨w.heap.size, 1, none⟩ = some (.int .i64 b) ∧ w'.cell? ⟨w.heap.size + 1, 0, none⟩ = some (.int .i64 c) ∧ w'.cell? ⟨w.heap.size + 1, 1, none⟩ = some (.int .i64 d))
    (first | exact ⟨d0, d1, d2, d3⟩ | exact held hp1 (by simpa using zB) ⟨d0, d1, d2, d3⟩ | exact held hp2 zp1 (held hp1 (by simpa using zB) ⟨d0, d1, d2, d3⟩))
    (first | (go_at_call 29; (with_reducible refine (point_any _ c d (by omega) (by omega)).mono ?_); rintro e p1 ⟨x1, y1, rfl, fx1, fy1, hp1⟩; have zp1 : w.heap.size + 1 < p1.heap.size := (by have := hp1.size; (try simp at this); omega)) | (go_at_call 29; (with_reducible refine (point_any _ a b (by omega) (by omega)).mono ?_); rintro e p2 ⟨x2, y2, rfl, fx2, fy2, hp2⟩; have zp2 : w.heap.size + 1 < p2.heap.size := (by have := hp2.size; (try simp at this); omega)) | (go_at_call 30; (with_reducible refine (swap_any _ _ _ a b fx2 fy2).mono ?_); rintro e w' ⟨x0, y0, rfl, fx0, fy0, rfl⟩; obtain ⟨u, v, hsub, fu, fv⟩ := cmul_sub fx1 fy1 fx0 fy0 (by omega) (by omega)))
  have K2 : Below w.heap.size w p2 := ((KB.drew).trans (hp1.mono (by simp; omega))).trans (hp2.mono (by omega))
  clear d0 d1 d2 d3 hp1 hp2 hsub KB zB
  go_wp2_with (first | (go_at_call 31; (with_reducible refine (sign_of _ _ (c - b) _ fu s1).mono ?_); rintro e w' ⟨rfl, rfl⟩) | (go_at_call 31; (with_reducible refine (sign_of _ _ (d - a) _ fv s2).mono ?_); rintro e w' ⟨rfl, rfl⟩))
  go_ret2
  exact ⟨rfl, K2⟩


set_option maxHeartbeats 2000000 in
theorem relate_13 (w : World) (a b c d : Int) (h1 : mayB a b = true) (h2 : mayB c d = true) (hx0 : c < b) (hx1 : d < a) : Calls Try.prog 10 #[sp a b, sp c d] w (PV (.tuple #[.int .i64 13, .int .i64 0]) w) := by

  obtain ⟨g0, g1, g2, g3, g4⟩ := may_iff.1 h1
  obtain ⟨k0, k1, k2, k3, k4⟩ := may_iff.1 h2
  have s1 : sgnI (c - b) = -1 := sgn_neg (by omega)
  have s2 : sgnI (d - a) = -1 := sgn_neg (by omega)
  go_enter Try.func10, Try.ntmps10
  go_wp2_with fail
  refine (may_of _ _ _ _ h1).mono ?_
  rintro e wA ⟨rfl, hbA⟩
  obtain ⟨c0, c1, c2, c3⟩ := held (n := w.heap.size) (a := .int .i64 a) (b := .int .i64 b) (c := .int .i64 c) (d := .int .i64 d) hbA (by simp) ⟨by simp [go_sem], by simp [go_sem], by simp [go_sem], by simp [go_sem]⟩
  have KA : Below w.heap.size w wA := (((Below.refl _ _).alloc (Nat.le_refl _) _).alloc (by simp) _).trans (hbA.mono (by simp; omega))
  have zA : w.heap.size + 1 < wA.heap.size := by have := hbA.size; simp at this; omega
  clear hbA
  go_wp2_with fail
  refine (may_of _ _ _ _ h2).mono ?_
  rintro e wB ⟨rfl, hbB⟩
  obtain ⟨d0, d1, d2, d3⟩ := held hbB zA ⟨c0, c1, c2, c3⟩
  have KB : Below w.heap.size w wB := KA.trans (hbB.mono (by omega))
  have zB : w.heap.size + 1 < wB.heap.size := by have := hbB.size; omega
  clear hbB c0 c1 c2 c3 zA KA
  go_wp2_with fail
  go_region_held3 (fun w' => w'.cell? ⟨w.heap.size, 0, none⟩ = some (.int .i64 a) ∧ w'.cell? ⟨w.heap.size, 1, none⟩ = some (.int .i64 b) ∧ w'.cell? ⟨w.heap.size + 1, 0, none⟩ = some (.int .i64 c) ∧ w'.cell? ⟨w.heap.size + 1, 1, none⟩ = some (.int .i64 d))
    (first | exact ⟨d0, d1, d2, d3⟩ | exact held hp1 (by simpa using zB) ⟨d0, d1, d2, d3⟩ | exact held hp2 zp1 (held hp1 (by simpa using zB) ⟨d0, d1, d2, d3⟩))
    (first | (go_at_call 29; (with_reducible refine (point_any _ c d (by omega) (by omega)).mono ?_); rintro e p1 ⟨x1, y1, rfl, fx1, fy1, hp1⟩; have zp1 : w.heap.size + 1 < p1.heap.size := (by have := hp1.size; (try simp at this); omega)) | (go_at_call 29; (with_reducible refine (point_any _ a b (by omega) (by omega)).mono ?_); rintro e p2 ⟨x2, y2, rfl, fx2, fy2, hp2⟩; have zp2 : w.heap.size + 1 < p2.heap.size := (by have := hp2.size; (try simp at this); omega)) | (go_at_call 30; (with_reducible refine (swap_any _ _ _ a b fx2 fy2).mono ?_); rintro e w' ⟨x0, y0, rfl, fx0, fy0, rfl⟩; obtain ⟨u, v, hsub, fu, fv⟩ := cmul_sub fx1 fy1 fx0 fy0 (by omega) (by omega)))
  have K2 : Below w.heap.size w p2 := ((KB.drew).trans (hp1.mono (by simp; omega))).trans (hp2.mono (by omega))
  clear d0 d1 d2 d3 hp1 hp2 hsub KB zB
  go_wp2_with (first | (go_at_call 31; (with_reducible refine (sign_of _ _ (c - b) _ fu s1).mono ?_); rintro e w' ⟨rfl, rfl⟩) | (go_at_call 31; (with_reducible refine (sign_of _ _ (d - a) _ fv s2).mono ?_); rintro e w' ⟨rfl, rfl⟩))
  go_ret2
  exact ⟨rfl, K2⟩


set_option maxHeartbeats 2000000 in
theorem relate_3 (w : World) (a b c d : Int) (h1 : mayB a b = true) (h2 : mayB c d = true) (hx0 : c < b) (hx1 : a < d) (hx2 : a < c) (hx3 : b < d) : Calls Try.prog 10 #[sp a b, sp c d] w (PV (.tuple #[.int .i64 3, .int .i64 0]) w) := by

  obtain ⟨g0, g1, g2, g3, g4⟩ := may_iff.1 h1
  obtain ⟨k0, k1, k2, k3, k4⟩ := may_iff.1 h2
  have s1 : sgnI (c - b) = -1 := sgn_neg (by omega)
  have s2 : sgnI (d - a) = 1 := sgn_pos (by omega)
  have s3 : sgnI (c - a) = 1 := sgn_pos (by omega)
  have s4 : sgnI (d - b) = 1 := sgn_pos (by omega)
  go_enter Try.func10, Try.ntmps10
  go_wp2_with fail
  refine (may_of _ _ _ _ h1).mono ?_
  rintro e wA ⟨rfl, hbA⟩
  obtain ⟨c0, c1, c2, c3⟩ := held (n := w.heap.size) (a := .int .i64 a) (b := .int .i64 b) (c := .int .i64 c) (d := .int .i64 d) hbA (by simp) ⟨by simp [go_sem], by simp [go_sem], by simp [go_sem], by simp [go_sem]⟩
  have KA : Below w.heap.size w wA := (((Below.refl _ _).alloc (Nat.le_refl _) _).alloc (by simp) _).trans (hbA.mono (by simp; omega))
  have zA : w.heap.size + 1 < wA.heap.size := by have := hbA.size; simp at this; omega
  clear hbA
  go_wp2_with fail
  refine (may_of _ _ _ _ h2).mono ?_
  rintro e wB ⟨rfl, hbB⟩
  obtain ⟨d0, d1, d2, d3⟩ := held hbB zA ⟨c0, c1, c2, c3⟩
  have KB : Below w.heap.size w wB := KA.trans (hbB.mono (by omega))
  have zB : w.heap.size + 1 < wB.heap.size := by have := hbB.size; omega
  clear hbB c0 c1 c2 c3 zA KA
  go_wp2_with fail
  go_region_held3 (fun w' => w'.cell? ⟨w.heap.size, 0, none⟩ = some (.int .i64 a) ∧ w'.cell? ⟨w.heap.size, 1, none⟩ = some (.int .i64 b) ∧ w'.cell? ⟨w.heap.size + 1, 0, none⟩ = some (.int .i64 c) ∧ w'.cell? ⟨w.heap.size + 1, 1, none⟩ = some (.int .i64 d))
    (first | exact ⟨d0, d1, d2, d3⟩ | exact held hp1 (by simpa using zB) ⟨d0, d1, d2, d3⟩ | exact held hp2 zp1 (held hp1 (by simpa using zB) ⟨d0, d1, d2, d3⟩))
    (first | (go_at_call 29; (with_reducible refine (point_any _ c d (by omega) (by omega)).mono ?_); rintro e p1 ⟨x1, y1, rfl, fx1, fy1, hp1⟩; have zp1 : w.heap.size + 1 < p1.heap.size := (by have := hp1.size; (try simp at this); omega)) | (go_at_call 29; (with_reducible refine (point_any _ a b (by omega) (by omega)).mono ?_); rintro e p2 ⟨x2, y2, rfl, fx2, fy2, hp2⟩; have zp2 : w.heap.size + 1 < p2.heap.size := (by have := hp2.size; (try simp at this); omega)) | (go_at_call 30; (with_reducible refine (swap_any _ _ _ a b fx2 fy2).mono ?_); rintro e w' ⟨x0, y0, rfl, fx0, fy0, rfl⟩; obtain ⟨u, v, hsub, fu, fv⟩ := cmul_sub fx1 fy1 fx0 fy0 (by omega) (by omega)))
  have K2 : Below w.heap.size w p2 := ((KB.drew).trans (hp1.mono (by simp; omega))).trans (hp2.mono (by omega))
  obtain ⟨m0, m1, m2, m3⟩ := held hp2 zp1 (held hp1 (by simpa using zB) ⟨d0, d1, d2, d3⟩)
  clear d0 d1 d2 d3 hp1 hp2 hsub KB zB
  go_wp2_with (first | (go_at_call 31; (with_reducible refine (sign_of _ _ (c - b) _ fu s1).mono ?_); rintro e w' ⟨rfl, rfl⟩) | (go_at_call 31; (with_reducible refine (sign_of _ _ (d - a) _ fv s2).mono ?_); rintro e w' ⟨rfl, rfl⟩))
  clear fu fv
  go_wp2_with fail
  go_region_held3 (fun w' => w'.cell? ⟨w.heap.size, 0, none⟩ = some (.int .i64 a) ∧ w'.cell? ⟨w.heap.size, 1, none⟩ = some (.int .i64 b) ∧ w'.cell? ⟨w.heap.size + 1, 0, none⟩ = some (.int .i64 c) ∧ w'.cell? ⟨w.heap.size + 1, 1, none⟩ = some (.int .i64 d))
    (first | exact ⟨m0, m1, m2, m3⟩ | exact held hp3 (by simpa using zp2) ⟨m0, m1, m2, m3⟩ | exact held hp4 zp3 (held hp3 (by simpa using zp2) ⟨m0, m1, m2, m3⟩))
    (first | (go_at_call 29; (with_reducible refine (point_any _ c d (by omega) (by omega)).mono ?_); rintro e p3 ⟨x3, y3, rfl, fx3, fy3, hp3⟩; have zp3 : w.heap.size + 1 < p3.heap.size := (by have := hp3.size; (try simp at this); omega)) | (go_at_call 29; (with_reducible refine (point_any _ a b (by omega) (by omega)).mono ?_); rintro e p4 ⟨x4, y4, rfl, fx4, fy4, hp4⟩; have zp4 : w.heap.size + 1 < p4.heap.size := (by have := hp4.size; (try simp at this); omega); obtain ⟨u, v, hsub, fu, fv⟩ := cmul_sub fx3 fy3 fx4 fy4 (by omega) (by omega)))
  have K4 : Below w.heap.size w p4 := ((K2.drew).trans (hp3.mono (by simp; omega))).trans (hp4.mono (by omega))
  clear m0 m1 m2 m3 hp3 hp4 hsub K2
  go_wp2_with (first | (go_at_call 31; (with_reducible refine (sign_of _ _ (c - a) _ fu s3).mono ?_); rintro e w' ⟨rfl, rfl⟩) | (go_at_call 31; (with_reducible refine (sign_of _ _ (d - b) _ fv s4).mono ?_); rintro e w' ⟨rfl, rfl⟩))
  go_ret2
  exact ⟨rfl, K4⟩


set_option maxHeartbeats 2000000 in
theorem relate_4 (w : World) (a b c d : Int) (h1 : mayB a b = true) (h2 : mayB c d = true) (hx0 : c < b) (hx1 : a < d) (hx2 : a < c) (hx3 : b = d) : Calls Try.prog 10 #[sp a b, sp c d] w (PV (.tuple #[.int .i64 4, .int .i64 0]) w) := by

  obtain ⟨g0, g1, g2, g3, g4⟩ := may_iff.1 h1
  obtain ⟨k0, k1, k2, k3, k4⟩ := may_iff.1 h2
  have s1 : sgnI (c - b) = -1 := sgn_neg (by omega)
  have s2 : sgnI (d - a) = 1 := sgn_pos (by omega)
  have s3 : sgnI (c - a) = 1 := sgn_pos (by omega)
  have s4 : sgnI (d - b) = 0 := sgn_zero (by omega)
  clear hx3
  go_enter Try.func10, Try.ntmps10
  go_wp2_with fail
  refine (may_of _ _ _ _ h1).mono ?_
  rintro e wA ⟨rfl, hbA⟩
  obtain ⟨c0, c1, c2, c3⟩ := held (n := w.heap.size) (a := .int .i64 a) (b := .int .i64 b) (c := .int .i64 c) (d := .int .i64 d) hbA (by simp) ⟨by simp [go_sem], by simp [go_sem], by simp [go_sem], by simp [go_sem]⟩
  have KA : Below w.heap.size w wA := (((Below.refl _ _).alloc (Nat.le_refl _) _).alloc (by simp) _).trans (hbA.mono (by simp; omega))
  have zA : w.heap.size + 1 < wA.heap.size := by have := hbA.size; simp at this; omega
  clear hbA
  go_wp2_with fail
  refine (may_of _ _ _ _ h2).mono ?_
  rintro e wB ⟨rfl, hbB⟩
  obtain ⟨d0, d1, d2, d3⟩ := held hbB zA ⟨c0, c1, c2, c3⟩
  have KB : Below w.heap.size w wB := KA.trans (hbB.mono (by omega))
  have zB : w.heap.size + 1 < wB.heap.size := by have := hbB.size; omega
  clear hbB c0 c1 c2 c3 zA KA
  go_wp2_with fail
  go_region_held3 (fun w' => w'.cell? ⟨w.heap.size, 0, none⟩ = some (.int .i64 a) ∧ w'.cell? ⟨w.heap.size, 1, none⟩ = some (.int .i64 b) ∧ w'.cell? ⟨w.heap.size + 1, 0, none⟩ = some (.int .i64 c) ∧ w'.cell? ⟨w.heap.size + 1, 1, none⟩ = some (.int .i64 d))
    (first | exact ⟨d0, d1, d2, d3⟩ | exact held hp1 (by simpa using zB) ⟨d0, d1, d2, d3⟩ | exact held hp2 zp1 (held hp1 (by simpa using zB) ⟨d0, d1, d2, d3⟩))
    (first | (go_at_call 29; (with_reducible refine (point_any _ c d (by omega) (by omega)).mono ?_); rintro e p1 ⟨x1, y1, rfl, fx1, fy1, hp1⟩; have zp1 : w.heap.size + 1 < p1.heap.size := (by have := hp1.size; (try simp at this); omega)) | (go_at_call 29; (with_reducible refine (point_any _ a b (by omega) (by omega)).mono ?_); rintro e p2 ⟨x2, y2, rfl, fx2, fy2, hp2⟩; have zp2 : w.heap.size + 1 < p2.heap.size := (by have := hp2.size; (try simp at this); omega)) | (go_at_call 30; (with_reducible refine (swap_any _ _ _ a b fx2 fy2).mono ?_); rintro e w' ⟨x0, y0, rfl, fx0, fy0, rfl⟩; obtain ⟨u, v, hsub, fu, fv⟩ := cmul_sub fx1 fy1 fx0 fy0 (by omega) (by omega)))
  have K2 : Below w.heap.size w p2 := ((KB.drew).trans (hp1.mono (by simp; omega))).trans (hp2.mono (by omega))
  obtain ⟨m0, m1, m2, m3⟩ := held hp2 zp1 (held hp1 (by simpa using zB) ⟨d0, d1, d2, d3⟩)
  clear d0 d1 d2 d3 hp1 hp2 hsub KB zB
  go_wp2_with (first | (go_at_call 31; (with_reducible refine (sign_of _ _ (c - b) _ fu s1).mono ?_); rintro e w' ⟨rfl, rfl⟩) | (go_at_call 31; (with_reducible refine (sign_of _ _ (d - a) _ fv s2).mono ?_); rintro e w' ⟨rfl, rfl⟩))
  clear fu fv
  go_wp2_with fail
  go_region_held3 (fun w' => w'.cell? ⟨w.heap.size, 0, none⟩ = some (.int .i64 a) ∧ w'.cell? ⟨w.heap.size, 1, none⟩ = some (.int .i64 b) ∧ w'.cell? ⟨w.heap.size + 1, 0, none⟩ = some (.int .i64 c) ∧ w'.cell? ⟨w.heap.size + 1, 1, none⟩ = some (.int .i64 d))
    (first | exact ⟨m0, m1, m2, m3⟩ | exact held hp3 (by simpa using zp2) ⟨m0, m1, m2, m3⟩ | exact held hp4 zp3 (held hp3 (by simpa using zp2) ⟨m0, m1, m2, m3⟩))
    (first | (go_at_call 29; (with_reducible refine (point_any _ c d (by omega) (by omega)).mono ?_); rintro e p3 ⟨x3, y3, rfl, fx3, fy3, hp3⟩; have zp3 : w.heap.size + 1 < p3.heap.size := (by have := hp3.size; (try simp at this); omega)) | (go_at_call 29; (with_reducible refine (point_any _ a b (by omega) (by omega)).mono ?_); rintro e p4 ⟨x4, y4, rfl, fx4, fy4, hp4⟩; have zp4 : w.heap.size + 1 < p4.heap.size := (by have := hp4.size; (try simp at this); omega); obtain ⟨u, v, hsub, fu, fv⟩ := cmul_sub fx3 fy3 fx4 fy4 (by omega) (by omega)))
  have K4 : Below w.heap.size w p4 := ((K2.drew).trans (hp3.mono (by simp; omega))).trans (hp4.mono (by omega))
  clear m0 m1 m2 m3 hp3 hp4 hsub K2
  go_wp2_with (first | (go_at_call 31; (with_reducible refine (sign_of _ _ (c - a) _ fu s3).mono ?_); rintro e w' ⟨rfl, rfl⟩) | (go_at_call 31; (with_reducible refine (sign_of _ _ (d - b) _ fv s4).mono ?_); rintro e w' ⟨rfl, rfl⟩))
  go_ret2
  exact ⟨rfl, K4⟩


set_option maxHeartbeats 2000000 in
theorem relate_5 (w : World) (a b c d : Int) (h1 : mayB a b = true) (h2 : mayB c d = true) (hx0 : c < b) (hx1 : a < d) (hx2 : a < c) (hx3 : d < b) : Calls Try.prog 10 #[sp a b, sp c d] w (PV (.tuple #[.int .i64 5, .int .i64 0]) w) := by

  obtain ⟨g0, g1, g2, g3, g4⟩ := may_iff.1 h1
  obtain ⟨k0, k1, k2, k3, k4⟩ := may_iff.1 h2
  have s1 : sgnI (c - b) = -1 := sgn_neg (by omega)
  have s2 : sgnI (d - a) = 1 := sgn_pos (by omega)
  have s3 : sgnI (c - a) = 1 := sgn_pos (by omega)
  have s4 : sgnI (d - b) = -1 := sgn_neg (by omega)
  go_enter Try.func10, Try.ntmps10
  go_wp2_with fail
  refine (may_of _ _ _ _ h1).mono ?_
  rintro e wA ⟨rfl, hbA⟩
  obtain ⟨c0, c1, c2, c3⟩ := held (n := w.heap.size) (a := .int .i64 a) (b := .int .i64 b) (c := .int .i64 c) (d := .int .i64 d) hbA (by simp) ⟨by simp [go_sem], by simp [go_sem], by simp [go_sem], by simp [go_sem]⟩
  have KA : Below w.heap.size w wA := (((Below.refl _ _).alloc (Nat.le_refl _) _).alloc (by simp) _).trans (hbA.mono (by simp; omega))
  have zA : w.heap.size + 1 < wA.heap.size := by have := hbA.size; simp at this; omega
  clear hbA
  go_wp2_with fail
  refine (may_of _ _ _ _ h2).mono ?_
  rintro e wB ⟨rfl, hbB⟩
  obtain ⟨d0, d1, d2, d3⟩ := held hbB zA ⟨c0, c1, c2, c3⟩
  have KB : Below w.heap.size w wB := KA.trans (hbB.mono (by omega))
  have zB : w.heap.size + 1 < wB.heap.size := by have := hbB.size; omega
  clear hbB c0 c1 c2 c3 zA KA
  go_wp2_with fail
  go_region_held3 (fun w' => w'.cell? ⟨w.heap.size, 0, none⟩ = some (.int .i64 a) ∧ w'.cell? ⟨w.heap.size, 1, none⟩ = some (.int .i64 b) ∧ w'.cell? ⟨w.heap.size + 1, 0, none⟩ = some (.int .i64 c) ∧ w'.cell? ⟨w.heap.size + 1, 1, none⟩ = some (.int .i64 d))
    (first | exact ⟨d0, d1, d2, d3⟩ | exact held hp1 (by simpa using zB) ⟨d0, d1, d2, d3⟩ | exact held hp2 zp1 (held hp1 (by simpa using zB) ⟨d0, d1, d2, d3⟩))
    (first | (go_at_call 29; (with_reducible refine (point_any _ c d (by omega) (by omega)).mono ?_); rintro e p1 ⟨x1, y1, rfl, fx1, fy1, hp1⟩; have zp1 : w.heap.size + 1 < p1.heap.size := (by have := hp1.size; (try simp at this); omega)) | (go_at_call 29; (with_reducible refine (point_any _ a b (by omega) (by omega)).mono ?_); rintro e p2 ⟨x2, y2, rfl, fx2, fy2, hp2⟩; have zp2 : w.heap.size + 1 < p2.heap.size := (by have := hp2.size; (try simp at this); omega)) | (go_at_call 30; (with_reducible refine (swap_any _ _ _ a b fx2 fy2).mono ?_); rintro e w' ⟨x0, y0, rfl, fx0, fy0, rfl⟩; obtain ⟨u, v, hsub, fu, fv⟩ := cmul_sub fx1 fy1 fx0 fy0 (by omega) (by omega)))
  have K2 : Below w.heap.size w p2 := ((KB.drew).trans (hp1.mono (by simp; omega))).trans (hp2.mono (by omega))
  obtain ⟨m0, m1, m2, m3⟩ := held hp2 zp1 (held hp1 (by simpa using zB) ⟨d0, d1, d2, d3⟩)
  clear d0 d1 d2 d3 hp1 hp2 hsub KB zB
  go_wp2_with (first | (go_at_call 31; (with_reducible refine (sign_of _ _ (c - b) _ fu s1).mono ?_); rintro e w' ⟨rfl, rfl⟩) | (go_at_call 31; (with_reducible refine (sign_of _ _ (d - a) _ fv s2).mono ?_); rintro e w' ⟨rfl, rfl⟩))
  clear fu fv
  go_wp2_with fail
  go_region_held3 (fun w' => w'.cell? ⟨w.heap.size, 0, none⟩ = some (.int .i64 a) ∧ w'.cell? ⟨w.heap.size, 1, none⟩ = some (.int .i64 b) ∧ w'.cell? ⟨w.heap.size + 1, 0, none⟩ = some (.int .i64 c) ∧ w'.cell? ⟨w.heap.size + 1, 1, none⟩ = some (.int .i64 d))
    (first | exact ⟨m0, m1, m2, m3⟩ | exact held hp3 (by simpa using zp2) ⟨m0, m1, m2, m3⟩ | exact held hp4 zp3 (held hp3 (by simpa using zp2) ⟨m0, m1, m2, m3⟩))
    (first | (go_at_call 29; (with_reducible refine (point_any _ c d (by omega) (by omega)).mono ?_); rintro e p3 ⟨x3, y3, rfl, fx3, fy3, hp3⟩; have zp3 : w.heap.size + 1 < p3.heap.size := (by have := hp3.size; (try simp at this); omega)) | (go_at_call 29; (with_reducible refine (point_any _ a b (by omega) (by omega)).mono ?_); rintro e p4 ⟨x4, y4, rfl, fx4, fy4, hp4⟩; have zp4 : w.heap.size + 1 < p4.heap.size := (by have := hp4.size; (try simp at this); omega); obtain ⟨u, v, hsub, fu, fv⟩ := cmul_sub fx3 fy3 fx4 fy4 (by omega) (by omega)))
  have K4 : Below w.heap.size w p4 := ((K2.drew).trans (hp3.mono (by simp; omega))).trans (hp4.mono (by omega))
  clear m0 m1 m2 m3 hp3 hp4 hsub K2
  go_wp2_with (first | (go_at_call 31; (with_reducible refine (sign_of _ _ (c - a) _ fu s3).mono ?_); rintro e w' ⟨rfl, rfl⟩) | (go_at_call 31; (with_reducible refine (sign_of _ _ (d - b) _ fv s4).mono ?_); rintro e w' ⟨rfl, rfl⟩))
  go_ret2
  exact ⟨rfl, K4⟩


set_option maxHeartbeats 2000000 in
theorem relate_6 (w : World) (a b c d : Int) (h1 : mayB a b = true) (h2 : mayB c d = true) (hx0 : c < b) (hx1 : a < d) (hx2 : a = c) (hx3 : b < d) : Calls Try.prog 10 #[sp a b, sp c d] w (PV (.tuple #[.int .i64 6, .int .i64 0]) w) := by

  obtain ⟨g0, g1, g2, g3, g4⟩ := may_iff.1 h1
  obtain ⟨k0, k1, k2, k3, k4⟩ := may_iff.1 h2
  have s1 : sgnI (c - b) = -1 := sgn_neg (by omega)
  have s2 : sgnI (d - a) = 1 := sgn_pos (by omega)
  have s3 : sgnI (c - a) = 0 := sgn_zero (by omega)
  have s4 : sgnI (d - b) = 1 := sgn_pos (by omega)
  clear hx2
  go_enter Try.func10, Try.ntmps10
  go_wp2_with fail
  refine (may_of _ _ _ _ h1).mono ?_
  rintro e wA ⟨rfl, hbA⟩
  obtain ⟨c0, c1, c2, c3⟩ := held (n := w.heap.size) (a := .int .i64 a) (b := .int .i64 b) (c := .int .i64 c) (d := .int .i64 d) hbA (by simp) ⟨by simp [go_sem], by simp [go_sem], by simp [go_sem], by simp [go_sem]⟩
  have KA : Below w.heap.size w wA := (((Below.refl _ _).alloc (Nat.le_refl _) _).alloc (by simp) _).trans (hbA.mono (by simp; omega))
  have zA : w.heap.size + 1 < wA.heap.size := by have := hbA.size; simp at this; omega
  clear hbA
  go_wp2_with fail
  refine (may_of _ _ _ _ h2).mono ?_
  rintro e wB ⟨rfl, hbB⟩
  obtain ⟨d0, d1, d2, d3⟩ := held hbB zA ⟨c0, c1, c2, c3⟩
  have KB : Below w.heap.size w wB := KA.trans (hbB.mono (by omega))
  have zB : w.heap.size + 1 < wB.heap.size := by have := hbB.size; omega
  clear hbB c0 c1 c2 c3 zA KA
  go_wp2_with fail
  go_region_held3 (fun w' => w'.cell? ⟨w.heap.size, 0, none⟩ = some (.int .i64 a) ∧ w'.cell? ⟨w.heap.size, 1, none⟩ = some (.int .i64 b) ∧ w'.cell? ⟨w.heap.size + 1, 0, none⟩ = some (.int .i64 c) ∧ w'.cell? ⟨w.heap.size + 1, 1, none⟩ = some (.int .i64 d))
    (first | exact ⟨d0, d1, d2, d3⟩ | exact held hp1 (by simpa using zB) ⟨d0, d1, d2, d3⟩ | exact held hp2 zp1 (held hp1 (by simpa using zB) ⟨d0, d1, d2, d3⟩))
    (first | (go_at_call 29; (with_reducible refine (point_any _ c d (by omega) (by omega)).mono ?_); rintro e p1 ⟨x1, y1, rfl, fx1, fy1, hp1⟩; have zp1 : w.heap.size + 1 < p1.heap.size := (by have := hp1.size; (try simp at this); omega)) | (go_at_call 29; (with_reducible refine (point_any _ a b (by omega) (by omega)).mono ?_); rintro e p2 ⟨x2, y2, rfl, fx2, fy2, hp2⟩; have zp2 : w.heap.size + 1 < p2.heap.size := (by have := hp2.size; (try simp at this); omega)) | (go_at_call 30; (with_reducible refine (swap_any _ _ _ a b fx2 fy2).mono ?_); rintro e w' ⟨x0, y0, rfl, fx0, fy0, rfl⟩; obtain ⟨u, v, hsub, fu, fv⟩ := cmul_sub fx1 fy1 fx0 fy0 (by omega) (by omega)))
  have K2 : Below w.heap.size w p2 := ((KB.drew).trans (hp1.mono (by simp; omega))).trans (hp2.mono (by omega))
  obtain ⟨m0, m1, m2, m3⟩ := held hp2 zp1 (held hp1 (by simpa using zB) ⟨d0, d1, d2, d3⟩)
  clear d0 d1 d2 d3 hp1 hp2 hsub KB zB
  go_wp2_with (first | (go_at_call 31; (with_reducible refine (sign_of _ _ (c - b) _ fu s1).mono ?_); rintro e w' ⟨rfl, rfl⟩) | (go_at_call 31; (with_reducible refine (sign_of _ _ (d - a) _ fv s2).mono ?_); rintro e w' ⟨rfl, rfl⟩))
  clear fu fv
  go_wp2_with fail
  go_region_held3 (fun w' => w'.cell? ⟨w.heap.size, 0, none⟩ = some (.int .i64 a) ∧ w'.cell? ⟨w.heap.size, 1, none⟩ = some (.int .i64 b) ∧ w'.cell? ⟨w.heap.size + 1, 0, none⟩ = some (.int .i64 c) ∧ w'.cell? ⟨w.heap.size + 1, 1, none⟩ = some (.int .i64 d))
    (first | exact ⟨m0, m1, m2, m3⟩ | exact held hp3 (by simpa using zp2) ⟨m0, m1, m2, m3⟩ | exact held hp4 zp3 (held hp3 (by simpa using zp2) ⟨m0, m1, m2, m3⟩))
    (first | (go_at_call 29; (with_reducible refine (point_any _ c d (by omega) (by omega)).mono ?_); rintro e p3 ⟨x3, y3, rfl, fx3, fy3, hp3⟩; have zp3 : w.heap.size + 1 < p3.heap.size := (by have := hp3.size; (try simp at this); omega)) | (go_at_call 29; (with_reducible refine (point_any _ a b (by omega) (by omega)).mono ?_); rintro e p4 ⟨x4, y4, rfl, fx4, fy4, hp4⟩; have zp4 : w.heap.size + 1 < p4.heap.size := (by have := hp4.size; (try simp at this); omega); obtain ⟨u, v, hsub, fu, fv⟩ := cmul_sub fx3 fy3 fx4 fy4 (by omega) (by omega)))
  have K4 : Below w.heap.size w p4 := ((K2.drew).trans (hp3.mono (by simp; omega))).trans (hp4.mono (by omega))
  clear m0 m1 m2 m3 hp3 hp4 hsub K2
  go_wp2_with (first | (go_at_call 31; (with_reducible refine (sign_of _ _ (c - a) _ fu s3).mono ?_); rintro e w' ⟨rfl, rfl⟩) | (go_at_call 31; (with_reducible refine (sign_of _ _ (d - b) _ fv s4).mono ?_); rintro e w' ⟨rfl, rfl⟩))
  go_ret2
  exact ⟨rfl, K4⟩


set_option maxHeartbeats 2000000 in
theorem relate_7 (w : World) (a b c d : Int) (h1 : mayB a b = true) (h2 : mayB c d = true) (hx0 : c < b) (hx1 : a < d) (hx2 : a = c) (hx3 : b = d) : Calls Try.prog 10 #[sp a b, sp c d] w (PV (.tuple #[.int .i64 7, .int .i64 0]) w) := by

  obtain ⟨g0, g1, g2, g3, g4⟩ := may_iff.1 h1
  obtain ⟨k0, k1, k2, k3, k4⟩ := may_iff.1 h2
  have s1 : sgnI (c - b) = -1 := sgn_neg (by omega)
  have s2 : sgnI (d - a) = 1 := sgn_pos (by omega)
  have s3 : sgnI (c - a) = 0 := sgn_zero (by omega)
  have s4 : sgnI (d - b) = 0 := sgn_zero (by omega)
  clear hx2
  clear hx3
  go_enter Try.func10, Try.ntmps10
  go_wp2_with fail
  refine (may_of _ _ _ _ h1).mono ?_
  rintro e wA ⟨rfl, hbA⟩
  obtain ⟨c0, c1, c2, c3⟩ := held (n := w.heap.size) (a := .int .i64 a) (b := .int .i64 b) (c := .int .i64 c) (d := .int .i64 d) hbA (by simp) ⟨by simp [go_sem], by simp [go_sem], by simp [go_sem], by simp [go_sem]⟩
  have KA : Below w.heap.size w wA := (((Below.refl _ _).alloc (Nat.le_refl _) _).alloc (by simp) _).trans (hbA.mono (by simp; omega))
  have zA : w.heap.size + 1 < wA.heap.size := by have := hbA.size; simp at this; omega
  clear hbA
  go_wp2_with fail
  refine (may_of _ _ _ _ h2).mono ?_
  rintro e wB ⟨rfl, hbB⟩
  obtain ⟨d0, d1, d2, d3⟩ := held hbB zA ⟨c0, c1, c2, c3⟩
  have KB : Below w.heap.size w wB := KA.trans (hbB.mono (by omega))
  have zB : w.heap.size + 1 < wB.heap.size := by have := hbB.size; omega
  clear hbB c0 c1 c2 c3 zA KA
  go_wp2_with fail
  go_region_held3 (fun w' => w'.cell? ⟨w.heap.size, 0, none⟩ = some (.int .i64 a) ∧ w'.cell? ⟨w.heap.size, 1, none⟩ = some (.int .i64 b) ∧ w'.cell? ⟨w.heap.size + 1, 0, none⟩ = some (.int .i64 c) ∧ w'.cell? ⟨w.heap.size + 1, 1, none⟩ = some (.int .i64 d))
    (first | exact ⟨d0, d1, d2, d3⟩ | exact held hp1 (by simpa using zB) ⟨d0, d1, d2, d3⟩ | exact held hp2 zp1 (held hp1 (by simpa using zB) ⟨d0, d1, d2, d3⟩))
    (first | (go_at_call 29; (with_reducible refine (point_any _ c d (by omega) (by omega)).mono ?_); rintro e p1 ⟨x1, y1, rfl, fx1, fy1, hp1⟩; have zp1 : w.heap.size + 1 < p1.heap.size := (by have := hp1.size; (try simp at this); omega)) | (go_at_call 29; (with_reducible refine (point_any _ a b (by omega) (by omega)).mono ?_); rintro e p2 ⟨x2, y2, rfl, fx2, fy2, hp2⟩; have zp2 : w.heap.size + 1 < p2.heap.size := (by have := hp2.size; (try simp at this); omega)) | (go_at_call 30; (with_reducible refine (swap_any _ _ _ a b fx2 fy2).mono ?_); rintro e w' ⟨x0, y0, rfl, fx0, fy0, rfl⟩; obtain ⟨u, v, hsub, fu, fv⟩ := cmul_sub fx1 fy1 fx0 fy0 (by omega) (by omega)))
  have K2 : Below w.heap.size w p2 := ((KB.drew).trans (hp1.mono (by simp; omega))).trans (hp2.mono (by omega))
  obtain ⟨m0, m1, m2, m3⟩ := held hp2 zp1 (held hp1 (by simpa using zB) ⟨d0, d1, d2, d3⟩)
  clear d0 d1 d2 d3 hp1 hp2 hsub KB zB
  go_wp2_with (first | (go_at_call 31; (with_reducible refine (sign_of _ _ (c - b) _ fu s1).mono ?_); rintro e w' ⟨rfl, rfl⟩) | (go_at_call 31; (with_reducible refine (sign_of _ _ (d - a) _ fv s2).mono ?_); rintro e w' ⟨rfl, rfl⟩))
  clear fu fv
  go_wp2_with fail
  go_region_held3 (fun w' => w'.cell? ⟨w.heap.size, 0, none⟩ = some (.int .i64 a) ∧ w'.cell? ⟨w.heap.size, 1, none⟩ = some (.int .i64 b) ∧ w'.cell? ⟨w.heap.size + 1, 0, none⟩ = some (.int .i64 c) ∧ w'.cell? ⟨w.heap.size + 1, 1, none⟩ = some (.int .i64 d))
    (first | exact ⟨m0, m1, m2, m3⟩ | exact held hp3 (by simpa using zp2) ⟨m0, m1, m2, m3⟩ | exact held hp4 zp3 (held hp3 (by simpa using zp2) ⟨m0, m1, m2, m3⟩))
    (first | (go_at_call 29; (with_reducible refine (point_any _ c d (by omega) (by omega)).mono ?_); rintro e p3 ⟨x3, y3, rfl, fx3, fy3, hp3⟩; have zp3 : w.heap.size + 1 < p3.heap.size := (by have := hp3.size; (try simp at this); omega)) | (go_at_call 29; (with_reducible refine (point_any _ a b (by omega) (by omega)).mono ?_); rintro e p4 ⟨x4, y4, rfl, fx4, fy4, hp4⟩; have zp4 : w.heap.size + 1 < p4.heap.size := (by have := hp4.size; (try simp at this); omega); obtain ⟨u, v, hsub, fu, fv⟩ := cmul_sub fx3 fy3 fx4 fy4 (by omega) (by omega)))
  have K4 : Below w.heap.size w p4 := ((K2.drew).trans (hp3.mono (by simp; omega))).trans (hp4.mono (by omega))
  clear m0 m1 m2 m3 hp3 hp4 hsub K2
  go_wp2_with (first | (go_at_call 31; (with_reducible refine (sign_of _ _ (c - a) _ fu s3).mono ?_); rintro e w' ⟨rfl, rfl⟩) | (go_at_call 31; (with_reducible refine (sign_of _ _ (d - b) _ fv s4).mono ?_); rintro e w' ⟨rfl, rfl⟩))
  go_ret2
  exact ⟨rfl, K4⟩


set_option maxHeartbeats 2000000 in
theorem relate_8 (w : World) (a b c d : Int) (h1 : mayB a b = true) (h2 : mayB c d = true) (hx0 : c < b) (hx1 : a < d) (hx2 : a = c) (hx3 : d < b) : Calls Try.prog 10 #[sp a b, sp c d] w (PV (.tuple #[.int .i64 8, .int .i64 0]) w) := by

  obtain ⟨g0, g1, g2, g3, g4⟩ := may_iff.1 h1
  obtain ⟨k0, k1, k2, k3, k4⟩ := may_iff.1 h2
  have s1 : sgnI (c - b) = -1 := sgn_neg (by omega)
  have s2 : sgnI (d - a) = 1 := sgn_pos (by omega)
  have s3 : sgnI (c - a) = 0 := sgn_zero (by omega)
  have s4 : sgnI (d - b) = -1 := sgn_neg (by omega)
  clear hx2
  go_enter Try.func10, Try.ntmps10
  go_wp2_with fail
  refine (may_of _ _ _ _ h1).mono ?_
  rintro e wA ⟨rfl, hbA⟩
  obtain ⟨c0, c1, c2, c3⟩ := held (n := w.heap.size) (a := .int .i64 a) (b := .int .i64 b) (c := .int .i64 c) (d := .int .i64 d) hbA (by simp) ⟨by simp [go_sem], by simp [go_sem], by simp [go_sem], by simp [go_sem]⟩
  have KA : Below w.heap.size w wA := (((Below.refl _ _).alloc (Nat.le_refl _) _).alloc (by simp) _).trans (hbA.mono (by simp; omega))
  have zA : w.heap.size + 1 < wA.heap.size := by have := hbA.size; simp at this; omega
  clear hbA
  go_wp2_with fail
  refine (may_of _ _ _ _ h2).mono ?_
  rintro e wB ⟨rfl, hbB⟩
  obtain ⟨d0, d1, d2, d3⟩ := held hbB zA ⟨c0, c1, c2, c3⟩
  have KB : Below w.heap.size w wB := KA.trans (hbB.mono (by omega))
  have zB : w.heap.size + 1 < wB.heap.size := by have := hbB.size; omega
  clear hbB c0 c1 c2 c3 zA KA
  go_wp2_with fail
  go_region_held3 (fun w' => w'.cell? ⟨w.heap.size, 0, none⟩ = some (.int .i64 a) ∧ w'.cell? ⟨w.heap.size, 1, none⟩ = some (.int .i64 b) ∧ w'.cell? ⟨w.heap.size + 1, 0, none⟩ = some (.int .i64 c) ∧ w'.cell? ⟨w.heap.size + 1, 1, none⟩ = some (.int .i64 d))
    (first | exact ⟨d0, d1, d2, d3⟩ | exact held hp1 (by simpa using zB) ⟨d0, d1, d2, d3⟩ | exact held hp2 zp1 (held hp1 (by simpa using zB) ⟨d0, d1, d2, d3⟩))
    (first | (go_at_call 29; (with_reducible refine (point_any _ c d (by omega) (by omega)).mono ?_); rintro e p1 ⟨x1, y1, rfl, fx1, fy1, hp1⟩; have zp1 : w.heap.size + 1 < p1.heap.size := (by have := hp1.size; (try simp at this); omega)) | (go_at_call 29; (with_reducible refine (point_any _ a b (by omega) (by omega)).mono ?_); rintro e p2 ⟨x2, y2, rfl, fx2, fy2, hp2⟩; have zp2 : w.heap.size + 1 < p2.heap.size := (by have := hp2.size; (try simp at this); omega)) | (go_at_call 30; (with_reducible refine (swap_any _ _ _ a b fx2 fy2).mono ?_); rintro e w' ⟨x0, y0, rfl, fx0, fy0, rfl⟩; obtain ⟨u, v, hsub, fu, fv⟩ := cmul_sub fx1 fy1 fx0 fy0 (by omega) (by omega)))
  have K2 : Below w.heap.size w p2 := ((KB.drew).trans (hp1.mono (by simp; omega))).trans (hp2.mono (by omega))
  obtain ⟨m0, m1, m2, m3⟩ := held hp2 zp1 (held hp1 (by simpa using zB) ⟨d0, d1, d2, d3⟩)
  clear d0 d1 d2 d3 hp1 hp2 hsub KB zB
  go_wp2_with (first | (go_at_call 31; (with_reducible refine (sign_of _ _ (c - b) _ fu s1).mono ?_); rintro e w' ⟨rfl, rfl⟩) | (go_at_call 31; (with_reducible refine (sign_of _ _ (d - a) _ fv s2).mono ?_); rintro e w' ⟨rfl, rfl⟩))
  clear fu fv
  go_wp2_with fail
  go_region_held3 (fun w' => w'.cell? ⟨w.heap.size, 0, none⟩ = some (.int .i64 a) ∧ w'.cell? ⟨w.heap.size, 1, none⟩ = some (.int .i64 b) ∧ w'.cell? ⟨w.heap.size + 1, 0, none⟩ = some (.int .i64 c) ∧ w'.cell? ⟨w.heap.size + 1, 1, none⟩ = some (.int .i64 d))
    (first | exact ⟨m0, m1, m2, m3⟩ | exact held hp3 (by simpa using zp2) ⟨m0, m1, m2, m3⟩ | exact held hp4 zp3 (held hp3 (by simpa using zp2) ⟨m0, m1, m2, m3⟩))
    (first | (go_at_call 29; (with_reducible refine (point_any _ c d (by omega) (by omega)).mono ?_); rintro e p3 ⟨x3, y3, rfl, fx3, fy3, hp3⟩; have zp3 : w.heap.size + 1 < p3.heap.size := (by have := hp3.size; (try simp at this); omega)) | (go_at_call 29; (with_reducible refine (point_any _ a b (by omega) (by omega)).mono ?_); rintro e p4 ⟨x4, y4, rfl, fx4, fy4, hp4⟩; have zp4 : w.heap.size + 1 < p4.heap.size := (by have := hp4.size; (try simp at this); omega); obtain ⟨u, v, hsub, fu, fv⟩ := cmul_sub fx3 fy3 fx4 fy4 (by omega) (by omega)))
  have K4 : Below w.heap.size w p4 := ((K2.drew).trans (hp3.mono (by simp; omega))).trans (hp4.mono (by omega))
  clear m0 m1 m2 m3 hp3 hp4 hsub K2
  go_wp2_with (first | (go_at_call 31; (with_reducible refine (sign_of _ _ (c - a) _ fu s3).mono ?_); rintro e w' ⟨rfl, rfl⟩) | (go_at_call 31; (with_reducible refine (sign_of _ _ (d - b) _ fv s4).mono ?_); rintro e w' ⟨rfl, rfl⟩))
  go_ret2
  exact ⟨rfl, K4⟩


set_option maxHeartbeats 2000000 in
theorem relate_9 (w : World) (a b c d : Int) (h1 : mayB a b = true) (h2 : mayB c d = true) (hx0 : c < b) (hx1 : a < d) (hx2 : c < a) (hx3 : b < d) : Calls Try.prog 10 #[sp a b, sp c d] w (PV (.tuple #[.int .i64 9, .int .i64 0]) w) := by

  obtain ⟨g0, g1, g2, g3, g4⟩ := may_iff.1 h1
  obtain ⟨k0, k1, k2, k3, k4⟩ := may_iff.1 h2
  have s1 : sgnI (c - b) = -1 := sgn_neg (by omega)
  have s2 : sgnI (d - a) = 1 := sgn_pos (by omega)
  have s3 : sgnI (c - a) = -1 := sgn_neg (by omega)
  have s4 : sgnI (d - b) = 1 := sgn_pos (by omega)
  go_enter Try.func10, Try.ntmps10
  go_wp2_with fail
  refine (may_of _ _ _ _ h1).mono ?_
  rintro e wA ⟨rfl, hbA⟩
  obtain ⟨c0, c1, c2, c3⟩ := held (n := w.heap.size) (a := .int .i64 a) (b := .int .i64 b) (c := .int .i64 c) (d := .int .i64 d) hbA (by simp) ⟨by simp [go_sem], by simp [go_sem], by simp [go_sem], by simp [go_sem]⟩
  have KA : Below w.heap.size w wA := (((Below.refl _ _).alloc (Nat.le_refl _) _).alloc (by simp) _).trans (hbA.mono (by simp; omega))
  have zA : w.heap.size + 1 < wA.heap.size := by have := hbA.size; simp at this; omega
  clear hbA
  go_wp2_with fail
  refine (may_of _ _ _ _ h2).mono ?_
  rintro e wB ⟨rfl, hbB⟩
  obtain ⟨d0, d1, d2, d3⟩ := held hbB zA ⟨c0, c1, c2, c3⟩
  have KB : Below w.heap.size w wB := KA.trans (hbB.mono (by omega))
  have zB : w.heap.size + 1 < wB.heap.size := by have := hbB.size; omega
  clear hbB c0 c1 c2 c3 zA KA
  go_wp2_with fail
  go_region_held3 (fun w' => w'.cell? ⟨w.heap.size, 0, none⟩ = some (.int .i64 a) ∧ w'.cell? ⟨w.heap.size, 1, none⟩ = some (.int .i64 b) ∧ w'.cell? ⟨w.heap.size + 1, 0, none⟩ = some (.int .i64 c) ∧ w'.cell? ⟨w.heap.size + 1, 1, none⟩ = some (.int .i64 d))
    (first | exact ⟨d0, d1, d2, d3⟩ | exact held hp1 (by simpa using zB) ⟨d0, d1, d2, d3⟩ | exact held hp2 zp1 (held hp1 (by simpa using zB) ⟨d0, d1, d2, d3⟩))
    (first | (go_at_call 29; (with_reducible refine (point_any _ c d (by omega) (by omega)).mono ?_); rintro e p1 ⟨x1, y1, rfl, fx1, fy1, hp1⟩; have zp1 : w.heap.size + 1 < p1.heap.size := (by have := hp1.size; (try simp at this); omega)) | (go_at_call 29; (with_reducible refine (point_any _ a b (by omega) (by omega)).mono ?_); rintro e p2 ⟨x2, y2, rfl, fx2, fy2, hp2⟩; have zp2 : w.heap.size + 1 < p2.heap.size := (by have := hp2.size; (try simp at this); omega)) | (go_at_call 30; (with_reducible refine (swap_any _ _ _ a b fx2 fy2).mono ?_); rintro e w' ⟨x0, y0, rfl, fx0, fy0, rfl⟩; obtain ⟨u, v, hsub, fu, fv⟩ := cmul_sub fx1 fy1 fx0 fy0 (by omega) (by omega)))
  have K2 : Below w.heap.size w p2 := ((KB.drew).trans (hp1.mono (by simp; omega))).trans (hp2.mono (by omega))
  obtain ⟨m0, m1, m2, m3⟩ := held hp2 zp1 (held hp1 (by simpa using zB) ⟨d0, d1, d2, d3⟩)
  clear d0 d1 d2 d3 hp1 hp2 hsub KB zB
  go_wp2_with (first | (go_at_call 31; (with_reducible refine (sign_of _ _ (c - b) _ fu s1).mono ?_); rintro e w' ⟨rfl, rfl⟩) | (go_at_call 31; (with_reducible refine (sign_of _ _ (d - a) _ fv s2).mono ?_); rintro e w' ⟨rfl, rfl⟩))
  clear fu fv
  go_wp2_with fail
  go_region_held3 (fun w' => w'.cell? ⟨w.heap.size, 0, none⟩ = some (.int .i64 a) ∧ w'.cell? ⟨w.heap.size, 1, none⟩ = some (.int .i64 b) ∧ w'.cell? ⟨w.heap.size + 1, 0, none⟩ = some (.int .i64 c) ∧ w'.cell? ⟨w.heap.size + 1, 1, none⟩ = some (.int .i64 d))
    (first | exact ⟨m0, m1, m2, m3⟩ | exact held hp3 (by simpa using zp2) ⟨m0, m1, m2, m3⟩ | exact held hp4 zp3 (held hp3 (by simpa using zp2) ⟨m0, m1, m2, m3⟩))
    (first | (go_at_call 29; (with_reducible refine (point_any _ c d (by omega) (by omega)).mono ?_); rintro e p3 ⟨x3, y3, rfl, fx3, fy3, hp3⟩; have zp3 : w.heap.size + 1 < p3.heap.size := (by have := hp3.size; (try simp at this); omega)) | (go_at_call 29; (with_reducible refine (point_any _ a b (by omega) (by omega)).mono ?_); rintro e p4 ⟨x4, y4, rfl, fx4, fy4, hp4⟩; have zp4 : w.heap.size + 1 < p4.heap.size := (by have := hp4.size; (try simp at this); omega); obtain ⟨u, v, hsub, fu, fv⟩ := cmul_sub fx3 fy3 fx4 fy4 (by omega) (by omega)))
  have K4 : Below w.heap.size w p4 := ((K2.drew).trans (hp3.mono (by simp; omega))).trans (hp4.mono (by omega))
  clear m0 m1 m2 m3 hp3 hp4 hsub K2
  go_wp2_with (first | (go_at_call 31; (with_reducible refine (sign_of _ _ (c - a) _ fu s3).mono ?_); rintro e w' ⟨rfl, rfl⟩) | (go_at_call 31; (with_reducible refine (sign_of _ _ (d - b) _ fv s4).mono ?_); rintro e w' ⟨rfl, rfl⟩))
  go_ret2
  exact ⟨rfl, K4⟩


set_option maxHeartbeats 2000000 in
theorem relate_10 (w : World) (a b c d : Int) (h1 : mayB a b = true) (h2 : mayB c d = true) (hx0 : c < b) (hx1 : a < d) (hx2 : c < a) (hx3 : b = d) : Calls Try.prog 10 #[sp a b, sp c d] w (PV (.tuple #[.int .i64 10, .int .i64 0]) w) := by

  obtain ⟨g0, g1, g2, g3, g4⟩ := may_iff.1 h1
  obtain ⟨k0, k1, k2, k3, k4⟩ := may_iff.1 h2
  have s1 : sgnI (c - b) = -1 := sgn_neg (by omega)
  have s2 : sgnI (d - a) = 1 := sgn_pos (by omega)
  have s3 : sgnI (c - a) = -1 := sgn_neg (by omega)
  have s4 : sgnI (d - b) = 0 := sgn_zero (by omega)
  clear hx3
  go_enter Try.func10, Try.ntmps10
  go_wp2_with fail
  refine (may_of _ _ _ _ h1).mono ?_
  rintro e wA ⟨rfl, hbA⟩
  obtain ⟨c0, c1, c2, c3⟩ := held (n := w.heap.size) (a := .int .i64 a) (b := .int .i64 b) (c := .int .i64 c) (d := .int .i64 d) hbA (by simp) ⟨by simp [go_sem], by simp [go_sem], by simp [go_sem], by simp [go_sem]⟩
  have KA : Below w.heap.size w wA := (((Below.refl _ _).alloc (Nat.le_refl _) _).alloc (by simp) _).trans (hbA.mono (by simp; omega))
  have zA : w.heap.size + 1 < wA.heap.size := by have := hbA.size; simp at this; omega
  clear hbA
  go_wp2_with fail
  refine (may_of _ _ _ _ h2).mono ?_
  rintro e wB ⟨rfl, hbB⟩
  obtain ⟨d0, d1, d2, d3⟩ := held hbB zA ⟨c0, c1, c2, c3⟩
  have KB : Below w.heap.size w wB := KA.trans (hbB.mono (by omega))
  have zB : w.heap.size + 1 < wB.heap.size := by have := hbB.size; omega
  clear hbB c0 c1 c2 c3 zA KA
  go_wp2_with fail
  go_region_held3 (fun w' => w'.cell? ⟨w.heap.size, 0, none⟩ = some (.int .i64 a) ∧ w'.cell? ⟨w.heap.size, 1, none⟩ = some (.int .i64 b) ∧ w'.cell? ⟨w.heap.size + 1, 0, none⟩ = some (.int .i64 c) ∧ w'.cell? ⟨w.heap.size + 1, 1, none⟩ = some (.int .i64 d))
    (first | exact ⟨d0, d1, d2, d3⟩ | exact held hp1 (by simpa using zB) ⟨d0, d1, d2, d3⟩ | exact held hp2 zp1 (held hp1 (by simpa using zB) ⟨d0, d1, d2, d3⟩))
    (first | (go_at_call 29; (with_reducible refine (point_any _ c d (by omega) (by omega)).mono ?_); rintro e p1 ⟨x1, y1, rfl, fx1, fy1, hp1⟩; have zp1 : w.heap.size + 1 < p1.heap.size := (by have := hp1.size; (try simp at this); omega)) | (go_at_call 29; (with_reducible refine (point_any _ a b (by omega) (by omega)).mono ?_); rintro e p2 ⟨x2, y2, rfl, fx2, fy2, hp2⟩; have zp2 : w.heap.size + 1 < p2.heap.size := (by have := hp2.size; (try simp at this); omega)) | (go_at_call 30; (with_reducible refine (swap_any _ _ _ a b fx2 fy2).mono ?_); rintro e w' ⟨x0, y0, rfl, fx0, fy0, rfl⟩; obtain ⟨u, v, hsub, fu, fv⟩ := cmul_sub fx1 fy1 fx0 fy0 (by omega) (by omega)))
  have K2 : Below w.heap.size w p2 := ((KB.drew).trans (hp1.mono (by simp; omega))).trans (hp2.mono (by omega))
  obtain ⟨m0, m1, m2, m3⟩ := held hp2 zp1 (held hp1 (by simpa using zB) ⟨d0, d1, d2, d3⟩)
  clear d0 d1 d2 d3 hp1 hp2 hsub KB zB
  go_wp2_with (first | (go_at_call 31; (with_reducible refine (sign_of _ _ (c - b) _ fu s1).mono ?_); rintro e w' ⟨rfl, rfl⟩) | (go_at_call 31; (with_reducible refine (sign_of _ _ (d - a) _ fv s2).mono ?_); rintro e w' ⟨rfl, rfl⟩))
  clear fu fv
  go_wp2_with fail
  go_region_held3 (fun w' => w'.cell? ⟨w.heap.size, 0, none⟩ = some (.int .i64 a) ∧ w'.cell? ⟨w.heap.size, 1, none⟩ = some (.int .i64 b) ∧ w'.cell? ⟨w.heap.size + 1, 0, none⟩ = some (.int .i64 c) ∧ w'.cell? ⟨w.heap.size + 1, 1, none⟩ = some (.int .i64 d))
    (first | exact ⟨m0, m1, m2, m3⟩ | exact held hp3 (by simpa using zp2) ⟨m0, m1, m2, m3⟩ | exact held hp4 zp3 (held hp3 (by simpa using zp2) ⟨m0, m1, m2, m3⟩))
    (first | (go_at_call 29; (with_reducible refine (point_any _ c d (by omega) (by omega)).mono ?_); rintro e p3 ⟨x3, y3, rfl, fx3, fy3, hp3⟩; have zp3 : w.heap.size + 1 < p3.heap.size := (by have := hp3.size; (try simp at this); omega)) | (go_at_call 29; (with_reducible refine (point_any _ a b (by omega) (by omega)).mono ?_); rintro e p4 ⟨x4, y4, rfl, fx4, fy4, hp4⟩; have zp4 : w.heap.size + 1 < p4.heap.size := (by have := hp4.size; (try simp at this); omega); obtain ⟨u, v, hsub, fu, fv⟩ := cmul_sub fx3 fy3 fx4 fy4 (by omega) (by omega)))
  have K4 : Below w.heap.size w p4 := ((K2.drew).trans (hp3.mono (by simp; omega))).trans (hp4.mono (by omega))
  clear m0 m1 m2 m3 hp3 hp4 hsub K2
  go_wp2_with (first | (go_at_call 31; (with_reducible refine (sign_of _ _ (c - a) _ fu s3).mono ?_); rintro e w' ⟨rfl, rfl⟩) | (go_at_call 31; (with_reducible refine (sign_of _ _ (d - b) _ fv s4).mono ?_); rintro e w' ⟨rfl, rfl⟩))
  go_ret2
  exact ⟨rfl, K4⟩


set_option maxHeartbeats 2000000 in
theorem relate_11 (w : World) (a b c d : Int) (h1 : mayB a b = true) (h2 : mayB c d = true) (hx0 : c < b) (hx1 : a < d) (hx2 : c < a) (hx3 : d < b) : Calls Try.prog 10 #[sp a b, sp c d] w (PV (.tuple #[.int .i64 11, .int .i64 0]) w) := by

  obtain ⟨g0, g1, g2, g3, g4⟩ := may_iff.1 h1
  obtain ⟨k0, k1, k2, k3, k4⟩ := may_iff.1 h2
  have s1 : sgnI (c - b) = -1 := sgn_neg (by omega)
  have s2 : sgnI (d - a) = 1 := sgn_pos (by omega)
  have s3 : sgnI (c - a) = -1 := sgn_neg (by omega)
  have s4 : sgnI (d - b) = -1 := sgn_neg (by omega)
  go_enter Try.func10, Try.ntmps10
  go_wp2_with fail
  refine (may_of _ _ _ _ h1).mono ?_
  rintro e wA ⟨rfl, hbA⟩
  obtain ⟨c0, c1, c2, c3⟩ := held (n := w.heap.size) (a := .int .i64 a) (b := .int .i64 b) (c := .int .i64 c) (d := .int .i64 d) hbA (by simp) ⟨by simp [go_sem], by simp [go_sem], by simp [go_sem], by simp [go_sem]⟩
  have KA : Below w.heap.size w wA := (((Below.refl _ _).alloc (Nat.le_refl _) _).alloc (by simp) _).trans (hbA.mono (by simp; omega))
  have zA : w.heap.size + 1 < wA.heap.size := by have := hbA.size; simp at this; omega
  clear hbA
  go_wp2_with fail
  refine (may_of _ _ _ _ h2).mono ?_
  rintro e wB ⟨rfl, hbB⟩
  obtain ⟨d0, d1, d2, d3⟩ := held hbB zA ⟨c0, c1, c2, c3⟩
  have KB : Below w.heap.size w wB := KA.trans (hbB.mono (by omega))
  have zB : w.heap.size + 1 < wB.heap.size := by have := hbB.size; omega
  clear hbB c0 c1 c2 c3 zA KA
  go_wp2_with fail
  go_region_held3 (fun w' => w'.cell? ⟨w.heap.size, 0, none⟩ = some (.int .i64 a) ∧ w'.cell? ⟨w.heap.size, 1, none⟩ = some (.int .i64 b) ∧ w'.cell? ⟨w.heap.size + 1, 0, none⟩ = some (.int .i64 c) ∧ w'.cell? ⟨w.heap.size + 1, 1, none⟩ = some (.int .i64 d))
    (first | exact ⟨d0, d1, d2, d3⟩ | exact held hp1 (by simpa using zB) ⟨d0, d1, d2, d3⟩ | exact held hp2 zp1 (held hp1 (by simpa using zB) ⟨d0, d1, d2, d3⟩))
    (first | (go_at_call 29; (with_reducible refine (point_any _ c d (by omega) (by omega)).mono ?_); rintro e p1 ⟨x1, y1, rfl, fx1, fy1, hp1⟩; have zp1 : w.heap.size + 1 < p1.heap.size := (by have := hp1.size; (try simp at this); omega)) | (go_at_call 29; (with_reducible refine (point_any _ a b (by omega) (by omega)).mono ?_); rintro e p2 ⟨x2, y2, rfl, fx2, fy2, hp2⟩; have zp2 : w.heap.size + 1 < p2.heap.size := (by have := hp2.size; (try simp at this); omega)) | (go_at_call 30; (with_reducible refine (swap_any _ _ _ a b fx2 fy2).mono ?_); rintro e w' ⟨x0, y0, rfl, fx0, fy0, rfl⟩; obtain ⟨u, v, hsub, fu, fv⟩ := cmul_sub fx1 fy1 fx0 fy0 (by omega) (by omega)))
  have K2 : Below w.heap.size w p2 := ((KB.drew).trans (hp1.mono (by simp; omega))).trans (hp2.mono (by omega))
  obtain ⟨m0, m1, m2, m3⟩ := held hp2 zp1 (held hp1 (by simpa using zB) ⟨d0, d1, d2, d3⟩)
  clear d0 d1 d2 d3 hp1 hp2 hsub KB zB
  go_wp2_with (first | (go_at_call 31; (with_reducible refine (sign_of _ _ (c - b) _ fu s1).mono ?_); rintro e w' ⟨rfl, rfl⟩) | (go_at_call 31; (with_reducible refine (sign_of _ _ (d - a) _ fv s2).mono ?_); rintro e w' ⟨rfl, rfl⟩))
  clear fu fv
  go_wp2_with fail
  go_region_held3 (fun w' => w'.cell? ⟨w.heap.size, 0, none⟩ = some (.int .i64 a) ∧ w'.cell? ⟨w.heap.size, 1, none⟩ = some (.int .i64 b) ∧ w'.cell? ⟨w.heap.size + 1, 0, none⟩ = some (.int .i64 c) ∧ w'.cell? ⟨w.heap.size + 1, 1, none⟩ = some (.int .i64 d))
    (first | exact ⟨m0, m1, m2, m3⟩ | exact held hp3 (by simpa using zp2) ⟨m0, m1, m2, m3⟩ | exact held hp4 zp3 (held hp3 (by simpa using zp2) ⟨m0, m1, m2, m3⟩))
    (first | (go_at_call 29; (with_reducible refine (point_any _ c d (by omega) (by omega)).mono ?_); rintro e p3 ⟨x3, y3, rfl, fx3, fy3, hp3⟩; have zp3 : w.heap.size + 1 < p3.heap.size := (by have := hp3.size; (try simp at this); omega)) | (go_at_call 29; (with_reducible refine (point_any _ a b (by omega) (by omega)).mono ?_); rintro e p4 ⟨x4, y4, rfl, fx4, fy4, hp4⟩; have zp4 : w.heap.size + 1 < p4.heap.size := (by have := hp4.size; (try simp at this); omega); obtain ⟨u, v, hsub, fu, fv⟩ := cmul_sub fx3 fy3 fx4 fy4 (by omega) (by omega)))
  have K4 : Below w.heap.size w p4 := ((K2.drew).trans (hp3.mono (by simp; omega))).trans (hp4.mono (by omega))
  clear m0 m1 m2 m3 hp3 hp4 hsub K2
  go_wp2_with (first | (go_at_call 31; (with_reducible refine (sign_of _ _ (c - a) _ fu s3).mono ?_); rintro e w' ⟨rfl, rfl⟩) | (go_at_call 31; (with_reducible refine (sign_of _ _ (d - b) _ fv s4).mono ?_); rintro e w' ⟨rfl, rfl⟩))
  go_ret2
  exact ⟨rfl, K4⟩


theorem relate_any (w : World) (a b c d : Int) : Calls Try.prog 10 #[sp a b, sp c d] w (PV (.tuple #[.int .i64 (rlN a b c d), .int .i64 (rlE a b c d)]) w) := by

  cases h1 : mayB a b with
  | false =>
    obtain ⟨r1, r2⟩ := rl_no1 (c := c) (d := d) h1
    rw [r1, r2]; clear r1 r2
    go_enter Try.func10, Try.ntmps10
    go_wp2_with (go_at_call 15; (with_reducible refine (may_of _ _ _ _ h1).mono ?_); rintro e w1 ⟨rfl, hb⟩; obtain ⟨hc, hf⟩ := bcell hb; have hz := hb.size; (try simp at hz); have z0 : w.heap.size < w1.heap.size := (by omega); have z1 : w.heap.size + 1 < w1.heap.size := (by omega))
    go_ret2
    exact ⟨rfl, (by repeat (first | exact Below.refl _ _ | refine Below.alloc ?_ (by first | omega | (simp; done) | (simp; omega)) _ | refine Below.setCell ?_ (by first | omega | (simp; done) | (simp; omega)) _ | refine Below.drew ?_ | refine Below.trans ?_ (Below.mono (by assumption) (by first | omega | (simp; done) | (simp; omega)))))⟩
  | true =>
    cases h2 : mayB c d with
    | false =>
      obtain ⟨r1, r2⟩ := rl_no2 (a := a) (b := b) h2
      rw [r1, r2]; clear r1 r2
      go_enter Try.func10, Try.ntmps10
      go_wp2_with (first | (go_at_call 15; (with_reducible refine (may_of _ _ _ _ h1).mono ?_); rintro e w1 ⟨rfl, hb⟩; obtain ⟨hc, hf⟩ := bcell hb; have hz := hb.size; (try simp at hz); have z0 : w.heap.size < w1.heap.size := (by omega); have z1 : w.heap.size + 1 < w1.heap.size := (by omega)) | (go_at_call 15; (with_reducible refine (may_of _ _ _ _ h2).mono ?_); rintro e w1 ⟨rfl, hb⟩; obtain ⟨hc, hf⟩ := bcell hb; have hz := hb.size; (try simp at hz); have z0 : w.heap.size < w1.heap.size := (by omega); have z1 : w.heap.size + 1 < w1.heap.size := (by omega)))
      go_ret2
      exact ⟨rfl, (by repeat (first | exact Below.refl _ _ | refine Below.alloc ?_ (by first | omega | (simp; done) | (simp; omega)) _ | refine Below.setCell ?_ (by first | omega | (simp; done) | (simp; omega)) _ | refine Below.drew ?_ | refine Below.trans ?_ (Below.mono (by assumption) (by first | omega | (simp; done) | (simp; omega)))))⟩
    | true =>
      obtain ⟨r1, r2⟩ := rl_yes h1 h2
      rw [r1, r2]; clear r1 r2
      obtain ⟨g0, g1, g2, g3, g4⟩ := may_iff.1 h1
      obtain ⟨k0, k1, k2, k3, k4⟩ := may_iff.1 h2
      by_cases q1 : b < c
      · skip
        have hr : relI a b c d = 1 := by
          unfold relI
          rw [if_pos (by omega)]
        rw [hr]
        exact relate_1 w a b c d h1 h2 (by omega)
      by_cases q2 : b = c
      · skip
        have hr : relI a b c d = 2 := by
          unfold relI
          rw [if_neg (by omega), if_pos (by omega)]
        rw [hr]
        exact relate_2 w a b c d h1 h2 (by omega)
      by_cases q12 : a = d
      · skip
        have hr : relI a b c d = 12 := by
          unfold relI
          rw [if_neg (by omega), if_neg (by omega), if_pos (by omega)]
        rw [hr]
        exact relate_12 w a b c d h1 h2 (by omega) (by omega)
      by_cases q13 : d < a
      · skip
        have hr : relI a b c d = 13 := by
          unfold relI
          rw [if_neg (by omega), if_neg (by omega), if_neg (by omega), if_pos (by omega)]
        rw [hr]
        exact relate_13 w a b c d h1 h2 (by omega) (by omega)
      have hab : a < c ∨ a = c ∨ c < a := by omega
      have hbd : b < d ∨ b = d ∨ d < b := by omega
      rcases hab with h5 | h5 | h5 <;> rcases hbd with h6 | h6 | h6
      · skip
        have hr : relI a b c d = 3 := by
          unfold relI
          rw [if_neg (by omega), if_neg (by omega), if_neg (by omega), if_neg (by omega), sgn_pos (x := c - a) (by omega), sgn_pos (x := d - b) (by omega)]
          rfl
        rw [hr]
        exact relate_3 w a b c d h1 h2 (by omega) (by omega) (by omega) (by omega)
      · skip
        have hr : relI a b c d = 4 := by
          unfold relI
          rw [if_neg (by omega), if_neg (by omega), if_neg (by omega), if_neg (by omega), sgn_pos (x := c - a) (by omega), sgn_zero (x := d - b) (by omega)]
          rfl
        rw [hr]
        exact relate_4 w a b c d h1 h2 (by omega) (by omega) (by omega) (by omega)
      · skip
        have hr : relI a b c d = 5 := by
          unfold relI
          rw [if_neg (by omega), if_neg (by omega), if_neg (by omega), if_neg (by omega), sgn_pos (x := c - a) (by omega), sgn_neg (x := d - b) (by omega)]
          rfl
        rw [hr]
        exact relate_5 w a b c d h1 h2 (by omega) (by omega) (by omega) (by omega)
      · skip
        have hr : relI a b c d = 6 := by
          unfold relI
          rw [if_neg (by omega), if_neg (by omega), if_neg (by omega), if_neg (by omega), sgn_zero (x := c - a) (by omega), sgn_pos (x := d - b) (by omega)]
          rfl
        rw [hr]
        exact relate_6 w a b c d h1 h2 (by omega) (by omega) (by omega) (by omega)
      · skip
        have hr : relI a b c d = 7 := by
          unfold relI
          rw [if_neg (by omega), if_neg (by omega), if_neg (by omega), if_neg (by omega), sgn_zero (x := c - a) (by omega), sgn_zero (x := d - b) (by omega)]
          rfl
        rw [hr]
        exact relate_7 w a b c d h1 h2 (by omega) (by omega) (by omega) (by omega)
      · skip
        have hr : relI a b c d = 8 := by
          unfold relI
          rw [if_neg (by omega), if_neg (by omega), if_neg (by omega), if_neg (by omega), sgn_zero (x := c - a) (by omega), sgn_neg (x := d - b) (by omega)]
          rfl
        rw [hr]
        exact relate_8 w a b c d h1 h2 (by omega) (by omega) (by omega) (by omega)
      · skip
        have hr : relI a b c d = 9 := by
          unfold relI
          rw [if_neg (by omega), if_neg (by omega), if_neg (by omega), if_neg (by omega), sgn_neg (x := c - a) (by omega), sgn_pos (x := d - b) (by omega)]
          rfl
        rw [hr]
        exact relate_9 w a b c d h1 h2 (by omega) (by omega) (by omega) (by omega)
      · skip
        have hr : relI a b c d = 10 := by
          unfold relI
          rw [if_neg (by omega), if_neg (by omega), if_neg (by omega), if_neg (by omega), sgn_neg (x := c - a) (by omega), sgn_zero (x := d - b) (by omega)]
          rfl
        rw [hr]
        exact relate_10 w a b c d h1 h2 (by omega) (by omega) (by omega) (by omega)
      · skip
        have hr : relI a b c d = 11 := by
          unfold relI
          rw [if_neg (by omega), if_neg (by omega), if_neg (by omega), if_neg (by omega), sgn_neg (x := c - a) (by omega), sgn_neg (x := d - b) (by omega)]
          rfl
        rw [hr]
        exact relate_11 w a b c d h1 h2 (by omega) (by omega) (by omega) (by omega)

end Go.Proofs.Ytghlkpaadahpaaa
