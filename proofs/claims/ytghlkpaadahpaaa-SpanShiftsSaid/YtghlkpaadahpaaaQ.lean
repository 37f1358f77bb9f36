/- The walks of SpanMirrors and SpanShifts. -/
import Derived.Test.YtghlkpaadahpaaaP
namespace Go.Proofs.Ytghlkpaadahpaaa
open Go.RowKit Fl

set_option maxHeartbeats 1000000 in
theorem mirrors_n1 (w : World) (a b c d s : Int) (q1 : ¬ miE a b s = 0) : Calls Try.prog 5 #[sp a b, sp c d, .int .i64 s] w (PV (.bool true) w) := by
  have z1 : (miE a b s == 0) = false := by simpa using q1
  clear q1
  go_enter Try.func5, Try.ntmps5
  go_wp2_with fail
  have K : Below w.heap.size w ((w.alloc (.cells #[.int .i64 a, .int .i64 b] 23)).alloc (.cells #[.int .i64 c, .int .i64 d] 23)) := (((Below.refl _ _).alloc (Nat.le_refl _) _).alloc (by first | omega | (simp; done) | (simp; omega)) _)
  have bx0 : Bx ((w.alloc (.cells #[.int .i64 a, .int .i64 b] 23)).alloc (.cells #[.int .i64 c, .int .i64 d] 23)) (w.heap.size) a b := ((Bx.new' (W := w) (n := w.heap.size) (by simp) a b 23).alloc _)
  have bx1 : Bx ((w.alloc (.cells #[.int .i64 a, .int .i64 b] 23)).alloc (.cells #[.int .i64 c, .int .i64 d] 23)) (w.heap.size + 1) c d := (Bx.new' (W := (w.alloc (.cells #[.int .i64 a, .int .i64 b] 23))) (n := w.heap.size + 1) (by simp) c d 23)
  generalize ((w.alloc (.cells #[.int .i64 a, .int .i64 b] 23)).alloc (.cells #[.int .i64 c, .int .i64 d] 23)) = W1 at *
  have c0 := bx0.c0
  have d0 := bx0.c1
  have l0 := bx0.lt
  have c1 := bx1.c0
  have d1 := bx1.c1
  have l1 := bx1.lt
  refine (mirror_any _ a b s).mono ?_
  rintro e V ⟨rfl, hb⟩
  clear c0 d0 l0 c1 d1 l1
  have bx0 := bx0.below hb
  have bx1 := bx1.below hb
  have K := K.trans (hb.mono K.size)
  clear hb
  have bx0 := bx0.alloc (.cells #[.int .i64 (miF a b s), .int .i64 (miT a b s)] 23)
  have bx1 := bx1.alloc (.cells #[.int .i64 (miF a b s), .int .i64 (miT a b s)] 23)
  have bx2 := Bx.new V (miF a b s) (miT a b s) 23
  have K := K.alloc K.size (.cells #[.int .i64 (miF a b s), .int .i64 (miT a b s)] 23)
  have c0 := bx0.c0
  have d0 := bx0.c1
  have l0 := bx0.lt
  have c1 := bx1.c0
  have d1 := bx1.c1
  have l1 := bx1.lt
  have c2 := bx2.c0
  have d2 := bx2.c1
  have l2 := bx2.lt
  go_wp2_with fail
  clear c0 d0 l0 c1 d1 l1 c2 d2 l2
  have SZ2 := Lib.hid (show (V.alloc (.cells #[.int .i64 (miF a b s), .int .i64 (miT a b s)] 23)).heap.size = V.heap.size + 1 by simp)
  generalize (V.alloc (.cells #[.int .i64 (miF a b s), .int .i64 (miT a b s)] 23)) = W2 at *
  generalize V.heap.size = n2 at *
  have c0 := bx0.c0
  have d0 := bx0.c1
  have l0 := bx0.lt
  have c1 := bx1.c0
  have d1 := bx1.c1
  have l1 := bx1.lt
  have c2 := bx2.c0
  have d2 := bx2.c1
  have l2 := bx2.lt
  refine (mirror_any _ c d s).mono ?_
  rintro e V ⟨rfl, hb⟩
  clear c0 d0 l0 c1 d1 l1 c2 d2 l2
  have bx0 := bx0.below hb
  have bx1 := bx1.below hb
  have bx2 := bx2.below hb
  have K := K.trans (hb.mono K.size)
  clear hb
  have bx0 := bx0.alloc (.cells #[.int .i64 (miF c d s), .int .i64 (miT c d s)] 23)
  have bx1 := bx1.alloc (.cells #[.int .i64 (miF c d s), .int .i64 (miT c d s)] 23)
  have bx2 := bx2.alloc (.cells #[.int .i64 (miF c d s), .int .i64 (miT c d s)] 23)
  have bx3 := Bx.new V (miF c d s) (miT c d s) 23
  have K := K.alloc K.size (.cells #[.int .i64 (miF c d s), .int .i64 (miT c d s)] 23)
  have c0 := bx0.c0
  have d0 := bx0.c1
  have l0 := bx0.lt
  have c1 := bx1.c0
  have d1 := bx1.c1
  have l1 := bx1.lt
  have c2 := bx2.c0
  have d2 := bx2.c1
  have l2 := bx2.lt
  have c3 := bx3.c0
  have d3 := bx3.c1
  have l3 := bx3.lt
  go_wp2_with fail
  clear c0 d0 l0 c1 d1 l1 c2 d2 l2 c3 d3 l3
  have SZ3 := Lib.hid (show (V.alloc (.cells #[.int .i64 (miF c d s), .int .i64 (miT c d s)] 23)).heap.size = V.heap.size + 1 by simp)
  generalize (V.alloc (.cells #[.int .i64 (miF c d s), .int .i64 (miT c d s)] 23)) = W3 at *
  generalize V.heap.size = n3 at *
  have c0 := bx0.c0
  have d0 := bx0.c1
  have l0 := bx0.lt
  have c1 := bx1.c0
  have d1 := bx1.c1
  have l1 := bx1.lt
  have c2 := bx2.c0
  have d2 := bx2.c1
  have l2 := bx2.lt
  have c3 := bx3.c0
  have d3 := bx3.c1
  have l3 := bx3.lt
  refine (live_any _).mono ?_
  rintro e V ⟨rfl, hb⟩
  clear c0 d0 l0 c1 d1 l1 c2 d2 l2 c3 d3 l3
  have bx0 := bx0.below hb
  have bx1 := bx1.below hb
  have bx2 := bx2.below hb
  have bx3 := bx3.below hb
  have K := K.trans (hb.mono K.size)
  clear hb
  generalize V = W4 at *
  have c0 := bx0.c0
  have d0 := bx0.c1
  have l0 := bx0.lt
  have c1 := bx1.c0
  have d1 := bx1.c1
  have l1 := bx1.lt
  have c2 := bx2.c0
  have d2 := bx2.c1
  have l2 := bx2.lt
  have c3 := bx3.c0
  have d3 := bx3.c1
  have l3 := bx3.lt
  go_wp2_with fail
  go_ret
  exact ⟨rfl, K⟩

set_option maxHeartbeats 1000000 in
theorem mirrors_n2 (w : World) (a b c d s : Int) (q1 : miE a b s = 0) (q2 : ¬ miE c d s = 0) : Calls Try.prog 5 #[sp a b, sp c d, .int .i64 s] w (PV (.bool true) w) := by
  have E1 := Lib.hid ((mirror_back q1))
  have z2 : (miE c d s == 0) = false := by simpa using q2
  clear q1 q2
  go_enter Try.func5, Try.ntmps5
  go_wp2_with fail
  have K : Below w.heap.size w ((w.alloc (.cells #[.int .i64 a, .int .i64 b] 23)).alloc (.cells #[.int .i64 c, .int .i64 d] 23)) := (((Below.refl _ _).alloc (Nat.le_refl _) _).alloc (by first | omega | (simp; done) | (simp; omega)) _)
  have bx0 : Bx ((w.alloc (.cells #[.int .i64 a, .int .i64 b] 23)).alloc (.cells #[.int .i64 c, .int .i64 d] 23)) (w.heap.size) a b := ((Bx.new' (W := w) (n := w.heap.size) (by simp) a b 23).alloc _)
  have bx1 : Bx ((w.alloc (.cells #[.int .i64 a, .int .i64 b] 23)).alloc (.cells #[.int .i64 c, .int .i64 d] 23)) (w.heap.size + 1) c d := (Bx.new' (W := (w.alloc (.cells #[.int .i64 a, .int .i64 b] 23))) (n := w.heap.size + 1) (by simp) c d 23)
  generalize ((w.alloc (.cells #[.int .i64 a, .int .i64 b] 23)).alloc (.cells #[.int .i64 c, .int .i64 d] 23)) = W1 at *
  have c0 := bx0.c0
  have d0 := bx0.c1
  have l0 := bx0.lt
  have c1 := bx1.c0
  have d1 := bx1.c1
  have l1 := bx1.lt
  refine (mirror_any _ a b s).mono ?_
  rintro e V ⟨rfl, hb⟩
  rw [E1.out.1, E1.out.2.1, E1.out.2.2.1]
  clear c0 d0 l0 c1 d1 l1
  have bx0 := bx0.below hb
  have bx1 := bx1.below hb
  have K := K.trans (hb.mono K.size)
  clear hb
  have bx0 := bx0.alloc (.cells #[.int .i64 (s - b), .int .i64 (s - a)] 23)
  have bx1 := bx1.alloc (.cells #[.int .i64 (s - b), .int .i64 (s - a)] 23)
  have bx2 := Bx.new V (s - b) (s - a) 23
  have K := K.alloc K.size (.cells #[.int .i64 (s - b), .int .i64 (s - a)] 23)
  have c0 := bx0.c0
  have d0 := bx0.c1
  have l0 := bx0.lt
  have c1 := bx1.c0
  have d1 := bx1.c1
  have l1 := bx1.lt
  have c2 := bx2.c0
  have d2 := bx2.c1
  have l2 := bx2.lt
  go_wp2_with fail
  clear c0 d0 l0 c1 d1 l1 c2 d2 l2
  have SZ2 := Lib.hid (show (V.alloc (.cells #[.int .i64 (s - b), .int .i64 (s - a)] 23)).heap.size = V.heap.size + 1 by simp)
  generalize (V.alloc (.cells #[.int .i64 (s - b), .int .i64 (s - a)] 23)) = W2 at *
  generalize V.heap.size = n2 at *
  have c0 := bx0.c0
  have d0 := bx0.c1
  have l0 := bx0.lt
  have c1 := bx1.c0
  have d1 := bx1.c1
  have l1 := bx1.lt
  have c2 := bx2.c0
  have d2 := bx2.c1
  have l2 := bx2.lt
  refine (mirror_any _ c d s).mono ?_
  rintro e V ⟨rfl, hb⟩
  clear c0 d0 l0 c1 d1 l1 c2 d2 l2
  have bx0 := bx0.below hb
  have bx1 := bx1.below hb
  have bx2 := bx2.below hb
  have K := K.trans (hb.mono K.size)
  clear hb
  have bx0 := bx0.alloc (.cells #[.int .i64 (miF c d s), .int .i64 (miT c d s)] 23)
  have bx1 := bx1.alloc (.cells #[.int .i64 (miF c d s), .int .i64 (miT c d s)] 23)
  have bx2 := bx2.alloc (.cells #[.int .i64 (miF c d s), .int .i64 (miT c d s)] 23)
  have bx3 := Bx.new V (miF c d s) (miT c d s) 23
  have K := K.alloc K.size (.cells #[.int .i64 (miF c d s), .int .i64 (miT c d s)] 23)
  have c0 := bx0.c0
  have d0 := bx0.c1
  have l0 := bx0.lt
  have c1 := bx1.c0
  have d1 := bx1.c1
  have l1 := bx1.lt
  have c2 := bx2.c0
  have d2 := bx2.c1
  have l2 := bx2.lt
  have c3 := bx3.c0
  have d3 := bx3.c1
  have l3 := bx3.lt
  go_wp2_with fail
  clear c0 d0 l0 c1 d1 l1 c2 d2 l2 c3 d3 l3
  have SZ3 := Lib.hid (show (V.alloc (.cells #[.int .i64 (miF c d s), .int .i64 (miT c d s)] 23)).heap.size = V.heap.size + 1 by simp)
  generalize (V.alloc (.cells #[.int .i64 (miF c d s), .int .i64 (miT c d s)] 23)) = W3 at *
  generalize V.heap.size = n3 at *
  have c0 := bx0.c0
  have d0 := bx0.c1
  have l0 := bx0.lt
  have c1 := bx1.c0
  have d1 := bx1.c1
  have l1 := bx1.lt
  have c2 := bx2.c0
  have d2 := bx2.c1
  have l2 := bx2.lt
  have c3 := bx3.c0
  have d3 := bx3.c1
  have l3 := bx3.lt
  refine (live_any _).mono ?_
  rintro e V ⟨rfl, hb⟩
  clear c0 d0 l0 c1 d1 l1 c2 d2 l2 c3 d3 l3
  have bx0 := bx0.below hb
  have bx1 := bx1.below hb
  have bx2 := bx2.below hb
  have bx3 := bx3.below hb
  have K := K.trans (hb.mono K.size)
  clear hb
  generalize V = W4 at *
  have c0 := bx0.c0
  have d0 := bx0.c1
  have l0 := bx0.lt
  have c1 := bx1.c0
  have d1 := bx1.c1
  have l1 := bx1.lt
  have c2 := bx2.c0
  have d2 := bx2.c1
  have l2 := bx2.lt
  have c3 := bx3.c0
  have d3 := bx3.c1
  have l3 := bx3.lt
  go_wp2_with fail
  go_ret
  exact ⟨rfl, K⟩

set_option maxHeartbeats 1000000 in
theorem mirrors_1 (w : World) (a b c d s : Int) (q1 : miE a b s = 0) (q2 : miE c d s = 0) (_h0 : b < c) : Calls Try.prog 5 #[sp a b, sp c d, .int .i64 s] w (PV (.bool true) w) := by
  obtain ⟨m1, m2, m3, m4⟩ := miE_zero q1
  obtain ⟨m5, _, _, m6⟩ := miE_zero q2
  have k1 := may_iff.1 m1
  have k2 := may_iff.1 m5
  have r1 : relI a b c d = 1 := rel1 (by omega) (by omega) (by omega)
  have r2 : relI (s - b) (s - a) (s - d) (s - c) = 13 := rel13 (by omega) (by omega) (by omega)
  have R : Hid (rlN a b c d = 1 ∧ rlE a b c d = 0 ∧ rlN (s - b) (s - a) (s - d) (s - c) = 13 ∧ rlE (s - b) (s - a) (s - d) (s - c) = 0) := ⟨by rw [(rl_yes m1 m5).1]; exact r1, (rl_yes m1 m5).2, by rw [(rl_yes m4 m6).1]; exact r2, (rl_yes m4 m6).2⟩
  have E1 := Lib.hid ((mirror_back q1))
  have E2 := Lib.hid ((mirror_back q2))
  clear q1 q2 m1 m4 m5 m6 r1 r2 k1 k2 m2 m3 _h0
  go_enter Try.func5, Try.ntmps5
  go_wp2_with fail
  have K : Below w.heap.size w ((w.alloc (.cells #[.int .i64 a, .int .i64 b] 23)).alloc (.cells #[.int .i64 c, .int .i64 d] 23)) := (((Below.refl _ _).alloc (Nat.le_refl _) _).alloc (by first | omega | (simp; done) | (simp; omega)) _)
  have bx0 : Bx ((w.alloc (.cells #[.int .i64 a, .int .i64 b] 23)).alloc (.cells #[.int .i64 c, .int .i64 d] 23)) (w.heap.size) a b := ((Bx.new' (W := w) (n := w.heap.size) (by simp) a b 23).alloc _)
  have bx1 : Bx ((w.alloc (.cells #[.int .i64 a, .int .i64 b] 23)).alloc (.cells #[.int .i64 c, .int .i64 d] 23)) (w.heap.size + 1) c d := (Bx.new' (W := (w.alloc (.cells #[.int .i64 a, .int .i64 b] 23))) (n := w.heap.size + 1) (by simp) c d 23)
  generalize ((w.alloc (.cells #[.int .i64 a, .int .i64 b] 23)).alloc (.cells #[.int .i64 c, .int .i64 d] 23)) = W1 at *
  have c0 := bx0.c0
  have d0 := bx0.c1
  have l0 := bx0.lt
  have c1 := bx1.c0
  have d1 := bx1.c1
  have l1 := bx1.lt
  refine (mirror_any _ a b s).mono ?_
  rintro e V ⟨rfl, hb⟩
  rw [E1.out.1, E1.out.2.1, E1.out.2.2.1]
  clear c0 d0 l0 c1 d1 l1
  have bx0 := bx0.below hb
  have bx1 := bx1.below hb
  have K := K.trans (hb.mono K.size)
  clear hb
  have bx0 := bx0.alloc (.cells #[.int .i64 (s - b), .int .i64 (s - a)] 23)
  have bx1 := bx1.alloc (.cells #[.int .i64 (s - b), .int .i64 (s - a)] 23)
  have bx2 := Bx.new V (s - b) (s - a) 23
  have K := K.alloc K.size (.cells #[.int .i64 (s - b), .int .i64 (s - a)] 23)
  have c0 := bx0.c0
  have d0 := bx0.c1
  have l0 := bx0.lt
  have c1 := bx1.c0
  have d1 := bx1.c1
  have l1 := bx1.lt
  have c2 := bx2.c0
  have d2 := bx2.c1
  have l2 := bx2.lt
  go_wp2_with fail
  clear c0 d0 l0 c1 d1 l1 c2 d2 l2
  have SZ2 := Lib.hid (show (V.alloc (.cells #[.int .i64 (s - b), .int .i64 (s - a)] 23)).heap.size = V.heap.size + 1 by simp)
  generalize (V.alloc (.cells #[.int .i64 (s - b), .int .i64 (s - a)] 23)) = W2 at *
  generalize V.heap.size = n2 at *
  have c0 := bx0.c0
  have d0 := bx0.c1
  have l0 := bx0.lt
  have c1 := bx1.c0
  have d1 := bx1.c1
  have l1 := bx1.lt
  have c2 := bx2.c0
  have d2 := bx2.c1
  have l2 := bx2.lt
  refine (mirror_any _ c d s).mono ?_
  rintro e V ⟨rfl, hb⟩
  rw [E2.out.1, E2.out.2.1, E2.out.2.2.1]
  clear c0 d0 l0 c1 d1 l1 c2 d2 l2
  have bx0 := bx0.below hb
  have bx1 := bx1.below hb
  have bx2 := bx2.below hb
  have K := K.trans (hb.mono K.size)
  clear hb
  have bx0 := bx0.alloc (.cells #[.int .i64 (s - d), .int .i64 (s - c)] 23)
  have bx1 := bx1.alloc (.cells #[.int .i64 (s - d), .int .i64 (s - c)] 23)
  have bx2 := bx2.alloc (.cells #[.int .i64 (s - d), .int .i64 (s - c)] 23)
  have bx3 := Bx.new V (s - d) (s - c) 23
  have K := K.alloc K.size (.cells #[.int .i64 (s - d), .int .i64 (s - c)] 23)
  have c0 := bx0.c0
  have d0 := bx0.c1
  have l0 := bx0.lt
  have c1 := bx1.c0
  have d1 := bx1.c1
  have l1 := bx1.lt
  have c2 := bx2.c0
  have d2 := bx2.c1
  have l2 := bx2.lt
  have c3 := bx3.c0
  have d3 := bx3.c1
  have l3 := bx3.lt
  go_wp2_with fail
  clear c0 d0 l0 c1 d1 l1 c2 d2 l2 c3 d3 l3
  have SZ3 := Lib.hid (show (V.alloc (.cells #[.int .i64 (s - d), .int .i64 (s - c)] 23)).heap.size = V.heap.size + 1 by simp)
  generalize (V.alloc (.cells #[.int .i64 (s - d), .int .i64 (s - c)] 23)) = W3 at *
  generalize V.heap.size = n3 at *
  have c0 := bx0.c0
  have d0 := bx0.c1
  have l0 := bx0.lt
  have c1 := bx1.c0
  have d1 := bx1.c1
  have l1 := bx1.lt
  have c2 := bx2.c0
  have d2 := bx2.c1
  have l2 := bx2.lt
  have c3 := bx3.c0
  have d3 := bx3.c1
  have l3 := bx3.lt
  refine (relate_any _ a b c d).mono ?_
  rintro e V ⟨rfl, hb⟩
  rw [R.out.1, R.out.2.1]
  clear c0 d0 l0 c1 d1 l1 c2 d2 l2 c3 d3 l3
  have bx0 := bx0.below hb
  have bx1 := bx1.below hb
  have bx2 := bx2.below hb
  have bx3 := bx3.below hb
  have K := K.trans (hb.mono K.size)
  clear hb
  generalize V = W4 at *
  have c0 := bx0.c0
  have d0 := bx0.c1
  have l0 := bx0.lt
  have c1 := bx1.c0
  have d1 := bx1.c1
  have l1 := bx1.lt
  have c2 := bx2.c0
  have d2 := bx2.c1
  have l2 := bx2.lt
  have c3 := bx3.c0
  have d3 := bx3.c1
  have l3 := bx3.lt
  go_wp2_with fail
  refine (relate_any _ (s - b) (s - a) (s - d) (s - c)).mono ?_
  rintro e V ⟨rfl, hb⟩
  rw [R.out.2.2.1, R.out.2.2.2]
  clear c0 d0 l0 c1 d1 l1 c2 d2 l2 c3 d3 l3
  have bx0 := bx0.below hb
  have bx1 := bx1.below hb
  have bx2 := bx2.below hb
  have bx3 := bx3.below hb
  have K := K.trans (hb.mono K.size)
  clear hb
  generalize V = W5 at *
  have c0 := bx0.c0
  have d0 := bx0.c1
  have l0 := bx0.lt
  have c1 := bx1.c0
  have d1 := bx1.c1
  have l1 := bx1.lt
  have c2 := bx2.c0
  have d2 := bx2.c1
  have l2 := bx2.lt
  have c3 := bx3.c0
  have d3 := bx3.c1
  have l3 := bx3.lt
  go_wp2_with fail
  have K := K.alloc K.size (.cells #[.int .i64 0, .int .i64 13, .int .i64 12, .int .i64 11, .int .i64 8, .int .i64 5, .int .i64 10, .int .i64 7, .int .i64 4, .int .i64 9, .int .i64 6, .int .i64 3, .int .i64 2, .int .i64 1] 36)
  refine (live_any _).mono ?_
  rintro e V ⟨rfl, hb⟩
  have cw : V.cell? ⟨W5.heap.size, 1, none⟩ = some (.int .i64 13) := by rw [hb.cell (p := ⟨W5.heap.size, 1, none⟩) (by simp)]; simp
  have K := K.trans (hb.mono K.size)
  clear hb
  clear c0 d0 l0 c1 d1 l1 c2 d2 l2 c3 d3 l3
  go_wp2_with fail
  go_ret
  exact ⟨rfl, K⟩

set_option maxHeartbeats 1000000 in
theorem mirrors_2 (w : World) (a b c d s : Int) (q1 : miE a b s = 0) (q2 : miE c d s = 0) (_h0 : b = c) : Calls Try.prog 5 #[sp a b, sp c d, .int .i64 s] w (PV (.bool true) w) := by
  obtain ⟨m1, m2, m3, m4⟩ := miE_zero q1
  obtain ⟨m5, _, _, m6⟩ := miE_zero q2
  have k1 := may_iff.1 m1
  have k2 := may_iff.1 m5
  have r1 : relI a b c d = 2 := rel2 (by omega) (by omega) (by omega)
  have r2 : relI (s - b) (s - a) (s - d) (s - c) = 12 := rel12 (by omega) (by omega) (by omega)
  have R : Hid (rlN a b c d = 2 ∧ rlE a b c d = 0 ∧ rlN (s - b) (s - a) (s - d) (s - c) = 12 ∧ rlE (s - b) (s - a) (s - d) (s - c) = 0) := ⟨by rw [(rl_yes m1 m5).1]; exact r1, (rl_yes m1 m5).2, by rw [(rl_yes m4 m6).1]; exact r2, (rl_yes m4 m6).2⟩
  have E1 := Lib.hid ((mirror_back q1))
  have E2 := Lib.hid ((mirror_back q2))
  clear q1 q2 m1 m4 m5 m6 r1 r2 k1 k2 m2 m3 _h0
  go_enter Try.func5, Try.ntmps5
  go_wp2_with fail
  have K : Below w.heap.size w ((w.alloc (.cells #[.int .i64 a, .int .i64 b] 23)).alloc (.cells #[.int .i64 c, .int .i64 d] 23)) := (((Below.refl _ _).alloc (Nat.le_refl _) _).alloc (by first | omega | (simp; done) | (simp; omega)) _)
  have bx0 : Bx ((w.alloc (.cells #[.int .i64 a, .int .i64 b] 23)).alloc (.cells #[.int .i64 c, .int .i64 d] 23)) (w.heap.size) a b := ((Bx.new' (W := w) (n := w.heap.size) (by simp) a b 23).alloc _)
  have bx1 : Bx ((w.alloc (.cells #[.int .i64 a, .int .i64 b] 23)).alloc (.cells #[.int .i64 c, .int .i64 d] 23)) (w.heap.size + 1) c d := (Bx.new' (W := (w.alloc (.cells #[.int .i64 a, .int .i64 b] 23))) (n := w.heap.size + 1) (by simp) c d 23)
  generalize ((w.alloc (.cells #[.int .i64 a, .int .i64 b] 23)).alloc (.cells #[.int .i64 c, .int .i64 d] 23)) = W1 at *
  have c0 := bx0.c0
  have d0 := bx0.c1
  have l0 := bx0.lt
  have c1 := bx1.c0
  have d1 := bx1.c1
  have l1 := bx1.lt
  refine (mirror_any _ a b s).mono ?_
  rintro e V ⟨rfl, hb⟩
  rw [E1.out.1, E1.out.2.1, E1.out.2.2.1]
  clear c0 d0 l0 c1 d1 l1
  have bx0 := bx0.below hb
  have bx1 := bx1.below hb
  have K := K.trans (hb.mono K.size)
  clear hb
  have bx0 := bx0.alloc (.cells #[.int .i64 (s - b), .int .i64 (s - a)] 23)
  have bx1 := bx1.alloc (.cells #[.int .i64 (s - b), .int .i64 (s - a)] 23)
  have bx2 := Bx.new V (s - b) (s - a) 23
  have K := K.alloc K.size (.cells #[.int .i64 (s - b), .int .i64 (s - a)] 23)
  have c0 := bx0.c0
  have d0 := bx0.c1
  have l0 := bx0.lt
  have c1 := bx1.c0
  have d1 := bx1.c1
  have l1 := bx1.lt
  have c2 := bx2.c0
  have d2 := bx2.c1
  have l2 := bx2.lt
  go_wp2_with fail
  clear c0 d0 l0 c1 d1 l1 c2 d2 l2
  have SZ2 := Lib.hid (show (V.alloc (.cells #[.int .i64 (s - b), .int .i64 (s - a)] 23)).heap.size = V.heap.size + 1 by simp)
  generalize (V.alloc (.cells #[.int .i64 (s - b), .int .i64 (s - a)] 23)) = W2 at *
  generalize V.heap.size = n2 at *
  have c0 := bx0.c0
  have d0 := bx0.c1
  have l0 := bx0.lt
  have c1 := bx1.c0
  have d1 := bx1.c1
  have l1 := bx1.lt
  have c2 := bx2.c0
  have d2 := bx2.c1
  have l2 := bx2.lt
  refine (mirror_any _ c d s).mono ?_
  rintro e V ⟨rfl, hb⟩
  rw [E2.out.1, E2.out.2.1, E2.out.2.2.1]
  clear c0 d0 l0 c1 d1 l1 c2 d2 l2
  have bx0 := bx0.below hb
  have bx1 := bx1.below hb
  have bx2 := bx2.below hb
  have K := K.trans (hb.mono K.size)
  clear hb
  have bx0 := bx0.alloc (.cells #[.int .i64 (s - d), .int .i64 (s - c)] 23)
  have bx1 := bx1.alloc (.cells #[.int .i64 (s - d), .int .i64 (s - c)] 23)
  have bx2 := bx2.alloc (.cells #[.int .i64 (s - d), .int .i64 (s - c)] 23)
  have bx3 := Bx.new V (s - d) (s - c) 23
  have K := K.alloc K.size (.cells #[.int .i64 (s - d), .int .i64 (s - c)] 23)
  have c0 := bx0.c0
  have d0 := bx0.c1
  have l0 := bx0.lt
  have c1 := bx1.c0
  have d1 := bx1.c1
  have l1 := bx1.lt
  have c2 := bx2.c0
  have d2 := bx2.c1
  have l2 := bx2.lt
  have c3 := bx3.c0
  have d3 := bx3.c1
  have l3 := bx3.lt
  go_wp2_with fail
  clear c0 d0 l0 c1 d1 l1 c2 d2 l2 c3 d3 l3
  have SZ3 := Lib.hid (show (V.alloc (.cells #[.int .i64 (s - d), .int .i64 (s - c)] 23)).heap.size = V.heap.size + 1 by simp)
  generalize (V.alloc (.cells #[.int .i64 (s - d), .int .i64 (s - c)] 23)) = W3 at *
  generalize V.heap.size = n3 at *
  have c0 := bx0.c0
  have d0 := bx0.c1
  have l0 := bx0.lt
  have c1 := bx1.c0
  have d1 := bx1.c1
  have l1 := bx1.lt
  have c2 := bx2.c0
  have d2 := bx2.c1
  have l2 := bx2.lt
  have c3 := bx3.c0
  have d3 := bx3.c1
  have l3 := bx3.lt
  refine (relate_any _ a b c d).mono ?_
  rintro e V ⟨rfl, hb⟩
  rw [R.out.1, R.out.2.1]
  clear c0 d0 l0 c1 d1 l1 c2 d2 l2 c3 d3 l3
  have bx0 := bx0.below hb
  have bx1 := bx1.below hb
  have bx2 := bx2.below hb
  have bx3 := bx3.below hb
  have K := K.trans (hb.mono K.size)
  clear hb
  generalize V = W4 at *
  have c0 := bx0.c0
  have d0 := bx0.c1
  have l0 := bx0.lt
  have c1 := bx1.c0
  have d1 := bx1.c1
  have l1 := bx1.lt
  have c2 := bx2.c0
  have d2 := bx2.c1
  have l2 := bx2.lt
  have c3 := bx3.c0
  have d3 := bx3.c1
  have l3 := bx3.lt
  go_wp2_with fail
  refine (relate_any _ (s - b) (s - a) (s - d) (s - c)).mono ?_
  rintro e V ⟨rfl, hb⟩
  rw [R.out.2.2.1, R.out.2.2.2]
  clear c0 d0 l0 c1 d1 l1 c2 d2 l2 c3 d3 l3
  have bx0 := bx0.below hb
  have bx1 := bx1.below hb
  have bx2 := bx2.below hb
  have bx3 := bx3.below hb
  have K := K.trans (hb.mono K.size)
  clear hb
  generalize V = W5 at *
  have c0 := bx0.c0
  have d0 := bx0.c1
  have l0 := bx0.lt
  have c1 := bx1.c0
  have d1 := bx1.c1
  have l1 := bx1.lt
  have c2 := bx2.c0
  have d2 := bx2.c1
  have l2 := bx2.lt
  have c3 := bx3.c0
  have d3 := bx3.c1
  have l3 := bx3.lt
  go_wp2_with fail
  have K := K.alloc K.size (.cells #[.int .i64 0, .int .i64 13, .int .i64 12, .int .i64 11, .int .i64 8, .int .i64 5, .int .i64 10, .int .i64 7, .int .i64 4, .int .i64 9, .int .i64 6, .int .i64 3, .int .i64 2, .int .i64 1] 36)
  refine (live_any _).mono ?_
  rintro e V ⟨rfl, hb⟩
  have cw : V.cell? ⟨W5.heap.size, 2, none⟩ = some (.int .i64 12) := by rw [hb.cell (p := ⟨W5.heap.size, 2, none⟩) (by simp)]; simp
  have K := K.trans (hb.mono K.size)
  clear hb
  clear c0 d0 l0 c1 d1 l1 c2 d2 l2 c3 d3 l3
  go_wp2_with fail
  go_ret
  exact ⟨rfl, K⟩

set_option maxHeartbeats 1000000 in
theorem mirrors_12 (w : World) (a b c d s : Int) (q1 : miE a b s = 0) (q2 : miE c d s = 0) (_h0 : a = d) : Calls Try.prog 5 #[sp a b, sp c d, .int .i64 s] w (PV (.bool true) w) := by
  obtain ⟨m1, m2, m3, m4⟩ := miE_zero q1
  obtain ⟨m5, _, _, m6⟩ := miE_zero q2
  have k1 := may_iff.1 m1
  have k2 := may_iff.1 m5
  have r1 : relI a b c d = 12 := rel12 (by omega) (by omega) (by omega)
  have r2 : relI (s - b) (s - a) (s - d) (s - c) = 2 := rel2 (by omega) (by omega) (by omega)
  have R : Hid (rlN a b c d = 12 ∧ rlE a b c d = 0 ∧ rlN (s - b) (s - a) (s - d) (s - c) = 2 ∧ rlE (s - b) (s - a) (s - d) (s - c) = 0) := ⟨by rw [(rl_yes m1 m5).1]; exact r1, (rl_yes m1 m5).2, by rw [(rl_yes m4 m6).1]; exact r2, (rl_yes m4 m6).2⟩
  have E1 := Lib.hid ((mirror_back q1))
  have E2 := Lib.hid ((mirror_back q2))
  clear q1 q2 m1 m4 m5 m6 r1 r2 k1 k2 m2 m3 _h0
  go_enter Try.func5, Try.ntmps5
  go_wp2_with fail
  have K : Below w.heap.size w ((w.alloc (.cells #[.int .i64 a, .int .i64 b] 23)).alloc (.cells #[.int .i64 c, .int .i64 d] 23)) := (((Below.refl _ _).alloc (Nat.le_refl _) _).alloc (by first | omega | (simp; done) | (simp; omega)) _)
  have bx0 : Bx ((w.alloc (.cells #[.int .i64 a, .int .i64 b] 23)).alloc (.cells #[.int .i64 c, .int .i64 d] 23)) (w.heap.size) a b := ((Bx.new' (W := w) (n := w.heap.size) (by simp) a b 23).alloc _)
  have bx1 : Bx ((w.alloc (.cells #[.int .i64 a, .int .i64 b] 23)).alloc (.cells #[.int .i64 c, .int .i64 d] 23)) (w.heap.size + 1) c d := (Bx.new' (W := (w.alloc (.cells #[.int .i64 a, .int .i64 b] 23))) (n := w.heap.size + 1) (by simp) c d 23)
  generalize ((w.alloc (.cells #[.int .i64 a, .int .i64 b] 23)).alloc (.cells #[.int .i64 c, .int .i64 d] 23)) = W1 at *
  have c0 := bx0.c0
  have d0 := bx0.c1
  have l0 := bx0.lt
  have c1 := bx1.c0
  have d1 := bx1.c1
  have l1 := bx1.lt
  refine (mirror_any _ a b s).mono ?_
  rintro e V ⟨rfl, hb⟩
  rw [E1.out.1, E1.out.2.1, E1.out.2.2.1]
  clear c0 d0 l0 c1 d1 l1
  have bx0 := bx0.below hb
  have bx1 := bx1.below hb
  have K := K.trans (hb.mono K.size)
  clear hb
  have bx0 := bx0.alloc (.cells #[.int .i64 (s - b), .int .i64 (s - a)] 23)
  have bx1 := bx1.alloc (.cells #[.int .i64 (s - b), .int .i64 (s - a)] 23)
  have bx2 := Bx.new V (s - b) (s - a) 23
  have K := K.alloc K.size (.cells #[.int .i64 (s - b), .int .i64 (s - a)] 23)
  have c0 := bx0.c0
  have d0 := bx0.c1
  have l0 := bx0.lt
  have c1 := bx1.c0
  have d1 := bx1.c1
  have l1 := bx1.lt
  have c2 := bx2.c0
  have d2 := bx2.c1
  have l2 := bx2.lt
  go_wp2_with fail
  clear c0 d0 l0 c1 d1 l1 c2 d2 l2
  have SZ2 := Lib.hid (show (V.alloc (.cells #[.int .i64 (s - b), .int .i64 (s - a)] 23)).heap.size = V.heap.size + 1 by simp)
  generalize (V.alloc (.cells #[.int .i64 (s - b), .int .i64 (s - a)] 23)) = W2 at *
  generalize V.heap.size = n2 at *
  have c0 := bx0.c0
  have d0 := bx0.c1
  have l0 := bx0.lt
  have c1 := bx1.c0
  have d1 := bx1.c1
  have l1 := bx1.lt
  have c2 := bx2.c0
  have d2 := bx2.c1
  have l2 := bx2.lt
  refine (mirror_any _ c d s).mono ?_
  rintro e V ⟨rfl, hb⟩
  rw [E2.out.1, E2.out.2.1, E2.out.2.2.1]
  clear c0 d0 l0 c1 d1 l1 c2 d2 l2
  have bx0 := bx0.below hb
  have bx1 := bx1.below hb
  have bx2 := bx2.below hb
  have K := K.trans (hb.mono K.size)
  clear hb
  have bx0 := bx0.alloc (.cells #[.int .i64 (s - d), .int .i64 (s - c)] 23)
  have bx1 := bx1.alloc (.cells #[.int .i64 (s - d), .int .i64 (s - c)] 23)
  have bx2 := bx2.alloc (.cells #[.int .i64 (s - d), .int .i64 (s - c)] 23)
  have bx3 := Bx.new V (s - d) (s - c) 23
  have K := K.alloc K.size (.cells #[.int .i64 (s - d), .int .i64 (s - c)] 23)
  have c0 := bx0.c0
  have d0 := bx0.c1
  have l0 := bx0.lt
  have c1 := bx1.c0
  have d1 := bx1.c1
  have l1 := bx1.lt
  have c2 := bx2.c0
  have d2 := bx2.c1
  have l2 := bx2.lt
  have c3 := bx3.c0
  have d3 := bx3.c1
  have l3 := bx3.lt
  go_wp2_with fail
  clear c0 d0 l0 c1 d1 l1 c2 d2 l2 c3 d3 l3
  have SZ3 := Lib.hid (show (V.alloc (.cells #[.int .i64 (s - d), .int .i64 (s - c)] 23)).heap.size = V.heap.size + 1 by simp)
  generalize (V.alloc (.cells #[.int .i64 (s - d), .int .i64 (s - c)] 23)) = W3 at *
  generalize V.heap.size = n3 at *
  have c0 := bx0.c0
  have d0 := bx0.c1
  have l0 := bx0.lt
  have c1 := bx1.c0
  have d1 := bx1.c1
  have l1 := bx1.lt
  have c2 := bx2.c0
  have d2 := bx2.c1
  have l2 := bx2.lt
  have c3 := bx3.c0
  have d3 := bx3.c1
  have l3 := bx3.lt
  refine (relate_any _ a b c d).mono ?_
  rintro e V ⟨rfl, hb⟩
  rw [R.out.1, R.out.2.1]
  clear c0 d0 l0 c1 d1 l1 c2 d2 l2 c3 d3 l3
  have bx0 := bx0.below hb
  have bx1 := bx1.below hb
  have bx2 := bx2.below hb
  have bx3 := bx3.below hb
  have K := K.trans (hb.mono K.size)
  clear hb
  generalize V = W4 at *
  have c0 := bx0.c0
  have d0 := bx0.c1
  have l0 := bx0.lt
  have c1 := bx1.c0
  have d1 := bx1.c1
  have l1 := bx1.lt
  have c2 := bx2.c0
  have d2 := bx2.c1
  have l2 := bx2.lt
  have c3 := bx3.c0
  have d3 := bx3.c1
  have l3 := bx3.lt
  go_wp2_with fail
  refine (relate_any _ (s - b) (s - a) (s - d) (s - c)).mono ?_
  rintro e V ⟨rfl, hb⟩
  rw [R.out.2.2.1, R.out.2.2.2]
  clear c0 d0 l0 c1 d1 l1 c2 d2 l2 c3 d3 l3
  have bx0 := bx0.below hb
  have bx1 := bx1.below hb
  have bx2 := bx2.below hb
  have bx3 := bx3.below hb
  have K := K.trans (hb.mono K.size)
  clear hb
  generalize V = W5 at *
  have c0 := bx0.c0
  have d0 := bx0.c1
  have l0 := bx0.lt
  have c1 := bx1.c0
  have d1 := bx1.c1
  have l1 := bx1.lt
  have c2 := bx2.c0
  have d2 := bx2.c1
  have l2 := bx2.lt
  have c3 := bx3.c0
  have d3 := bx3.c1
  have l3 := bx3.lt
  go_wp2_with fail
  have K := K.alloc K.size (.cells #[.int .i64 0, .int .i64 13, .int .i64 12, .int .i64 11, .int .i64 8, .int .i64 5, .int .i64 10, .int .i64 7, .int .i64 4, .int .i64 9, .int .i64 6, .int .i64 3, .int .i64 2, .int .i64 1] 36)
  refine (live_any _).mono ?_
  rintro e V ⟨rfl, hb⟩
  have cw : V.cell? ⟨W5.heap.size, 12, none⟩ = some (.int .i64 2) := by rw [hb.cell (p := ⟨W5.heap.size, 12, none⟩) (by simp)]; simp
  have K := K.trans (hb.mono K.size)
  clear hb
  clear c0 d0 l0 c1 d1 l1 c2 d2 l2 c3 d3 l3
  go_wp2_with fail
  go_ret
  exact ⟨rfl, K⟩

set_option maxHeartbeats 1000000 in
theorem mirrors_13 (w : World) (a b c d s : Int) (q1 : miE a b s = 0) (q2 : miE c d s = 0) (_h0 : d < a) : Calls Try.prog 5 #[sp a b, sp c d, .int .i64 s] w (PV (.bool true) w) := by
  obtain ⟨m1, m2, m3, m4⟩ := miE_zero q1
  obtain ⟨m5, _, _, m6⟩ := miE_zero q2
  have k1 := may_iff.1 m1
  have k2 := may_iff.1 m5
  have r1 : relI a b c d = 13 := rel13 (by omega) (by omega) (by omega)
  have r2 : relI (s - b) (s - a) (s - d) (s - c) = 1 := rel1 (by omega) (by omega) (by omega)
  have R : Hid (rlN a b c d = 13 ∧ rlE a b c d = 0 ∧ rlN (s - b) (s - a) (s - d) (s - c) = 1 ∧ rlE (s - b) (s - a) (s - d) (s - c) = 0) := ⟨by rw [(rl_yes m1 m5).1]; exact r1, (rl_yes m1 m5).2, by rw [(rl_yes m4 m6).1]; exact r2, (rl_yes m4 m6).2⟩
  have E1 := Lib.hid ((mirror_back q1))
  have E2 := Lib.hid ((mirror_back q2))
  clear q1 q2 m1 m4 m5 m6 r1 r2 k1 k2 m2 m3 _h0
  go_enter Try.func5, Try.ntmps5
  go_wp2_with fail
  have K : Below w.heap.size w ((w.alloc (.cells #[.int .i64 a, .int .i64 b] 23)).alloc (.cells #[.int .i64 c, .int .i64 d] 23)) := (((Below.refl _ _).alloc (Nat.le_refl _) _).alloc (by first | omega | (simp; done) | (simp; omega)) _)
  have bx0 : Bx ((w.alloc (.cells #[.int .i64 a, .int .i64 b] 23)).alloc (.cells #[.int .i64 c, .int .i64 d] 23)) (w.heap.size) a b := ((Bx.new' (W := w) (n := w.heap.size) (by simp) a b 23).alloc _)
  have bx1 : Bx ((w.alloc (.cells #[.int .i64 a, .int .i64 b] 23)).alloc (.cells #[.int .i64 c, .int .i64 d] 23)) (w.heap.size + 1) c d := (Bx.new' (W := (w.alloc (.cells #[.int .i64 a, .int .i64 b] 23))) (n := w.heap.size + 1) (by simp) c d 23)
  generalize ((w.alloc (.cells #[.int .i64 a, .int .i64 b] 23)).alloc (.cells #[.int .i64 c, .int .i64 d] 23)) = W1 at *
  have c0 := bx0.c0
  have d0 := bx0.c1
  have l0 := bx0.lt
  have c1 := bx1.c0
  have d1 := bx1.c1
  have l1 := bx1.lt
  refine (mirror_any _ a b s).mono ?_
  rintro e V ⟨rfl, hb⟩
  rw [E1.out.1, E1.out.2.1, E1.out.2.2.1]
  clear c0 d0 l0 c1 d1 l1
  have bx0 := bx0.below hb
  have bx1 := bx1.below hb
  have K := K.trans (hb.mono K.size)
  clear hb
  have bx0 := bx0.alloc (.cells #[.int .i64 (s - b), .int .i64 (s - a)] 23)
  have bx1 := bx1.alloc (.cells #[.int .i64 (s - b), .int .i64 (s - a)] 23)
  have bx2 := Bx.new V (s - b) (s - a) 23
  have K := K.alloc K.size (.cells #[.int .i64 (s - b), .int .i64 (s - a)] 23)
  have c0 := bx0.c0
  have d0 := bx0.c1
  have l0 := bx0.lt
  have c1 := bx1.c0
  have d1 := bx1.c1
  have l1 := bx1.lt
  have c2 := bx2.c0
  have d2 := bx2.c1
  have l2 := bx2.lt
  go_wp2_with fail
  clear c0 d0 l0 c1 d1 l1 c2 d2 l2
  have SZ2 := Lib.hid (show (V.alloc (.cells #[.int .i64 (s - b), .int .i64 (s - a)] 23)).heap.size = V.heap.size + 1 by simp)
  generalize (V.alloc (.cells #[.int .i64 (s - b), .int .i64 (s - a)] 23)) = W2 at *
  generalize V.heap.size = n2 at *
  have c0 := bx0.c0
  have d0 := bx0.c1
  have l0 := bx0.lt
  have c1 := bx1.c0
  have d1 := bx1.c1
  have l1 := bx1.lt
  have c2 := bx2.c0
  have d2 := bx2.c1
  have l2 := bx2.lt
  refine (mirror_any _ c d s).mono ?_
  rintro e V ⟨rfl, hb⟩
  rw [E2.out.1, E2.out.2.1, E2.out.2.2.1]
  clear c0 d0 l0 c1 d1 l1 c2 d2 l2
  have bx0 := bx0.below hb
  have bx1 := bx1.below hb
  have bx2 := bx2.below hb
  have K := K.trans (hb.mono K.size)
  clear hb
  have bx0 := bx0.alloc (.cells #[.int .i64 (s - d), .int .i64 (s - c)] 23)
  have bx1 := bx1.alloc (.cells #[.int .i64 (s - d), .int .i64 (s - c)] 23)
  have bx2 := bx2.alloc (.cells #[.int .i64 (s - d), .int .i64 (s - c)] 23)
  have bx3 := Bx.new V (s - d) (s - c) 23
  have K := K.alloc K.size (.cells #[.int .i64 (s - d), .int .i64 (s - c)] 23)
  have c0 := bx0.c0
  have d0 := bx0.c1
  have l0 := bx0.lt
  have c1 := bx1.c0
  have d1 := bx1.c1
  have l1 := bx1.lt
  have c2 := bx2.c0
  have d2 := bx2.c1
  have l2 := bx2.lt
  have c3 := bx3.c0
  have d3 := bx3.c1
  have l3 := bx3.lt
  go_wp2_with fail
  clear c0 d0 l0 c1 d1 l1 c2 d2 l2 c3 d3 l3
  have SZ3 := Lib.hid (show (V.alloc (.cells #[.int .i64 (s - d), .int .i64 (s - c)] 23)).heap.size = V.heap.size + 1 by simp)
  generalize (V.alloc (.cells #[.int .i64 (s - d), .int .i64 (s - c)] 23)) = W3 at *
  generalize V.heap.size = n3 at *
  have c0 := bx0.c0
  have d0 := bx0.c1
  have l0 := bx0.lt
  have c1 := bx1.c0
  have d1 := bx1.c1
  have l1 := bx1.lt
  have c2 := bx2.c0
  have d2 := bx2.c1
  have l2 := bx2.lt
  have c3 := bx3.c0
  have d3 := bx3.c1
  have l3 := bx3.lt
  refine (relate_any _ a b c d).mono ?_
  rintro e V ⟨rfl, hb⟩
  rw [R.out.1, R.out.2.1]
  clear c0 d0 l0 c1 d1 l1 c2 d2 l2 c3 d3 l3
  have bx0 := bx0.below hb
  have bx1 := bx1.below hb
  have bx2 := bx2.below hb
  have bx3 := bx3.below hb
  have K := K.trans (hb.mono K.size)
  clear hb
  generalize V = W4 at *
  have c0 := bx0.c0
  have d0 := bx0.c1
  have l0 := bx0.lt
  have c1 := bx1.c0
  have d1 := bx1.c1
  have l1 := bx1.lt
  have c2 := bx2.c0
  have d2 := bx2.c1
  have l2 := bx2.lt
  have c3 := bx3.c0
  have d3 := bx3.c1
  have l3 := bx3.lt
  go_wp2_with fail
  refine (relate_any _ (s - b) (s - a) (s - d) (s - c)).mono ?_
  rintro e V ⟨rfl, hb⟩
  rw [R.out.2.2.1, R.out.2.2.2]
  clear c0 d0 l0 c1 d1 l1 c2 d2 l2 c3 d3 l3
  have bx0 := bx0.below hb
  have bx1 := bx1.below hb
  have bx2 := bx2.below hb
  have bx3 := bx3.below hb
  have K := K.trans (hb.mono K.size)
  clear hb
  generalize V = W5 at *
  have c0 := bx0.c0
  have d0 := bx0.c1
  have l0 := bx0.lt
  have c1 := bx1.c0
  have d1 := bx1.c1
  have l1 := bx1.lt
  have c2 := bx2.c0
  have d2 := bx2.c1
  have l2 := bx2.lt
  have c3 := bx3.c0
  have d3 := bx3.c1
  have l3 := bx3.lt
  go_wp2_with fail
  have K := K.alloc K.size (.cells #[.int .i64 0, .int .i64 13, .int .i64 12, .int .i64 11, .int .i64 8, .int .i64 5, .int .i64 10, .int .i64 7, .int .i64 4, .int .i64 9, .int .i64 6, .int .i64 3, .int .i64 2, .int .i64 1] 36)
  refine (live_any _).mono ?_
  rintro e V ⟨rfl, hb⟩
  have cw : V.cell? ⟨W5.heap.size, 13, none⟩ = some (.int .i64 1) := by rw [hb.cell (p := ⟨W5.heap.size, 13, none⟩) (by simp)]; simp
  have K := K.trans (hb.mono K.size)
  clear hb
  clear c0 d0 l0 c1 d1 l1 c2 d2 l2 c3 d3 l3
  go_wp2_with fail
  go_ret
  exact ⟨rfl, K⟩

set_option maxHeartbeats 1000000 in
theorem mirrors_3 (w : World) (a b c d s : Int) (q1 : miE a b s = 0) (q2 : miE c d s = 0) (_h0 : c < b) (_h1 : a < d) (_h2 : a < c) (_h3 : b < d) : Calls Try.prog 5 #[sp a b, sp c d, .int .i64 s] w (PV (.bool true) w) := by
  obtain ⟨m1, m2, m3, m4⟩ := miE_zero q1
  obtain ⟨m5, _, _, m6⟩ := miE_zero q2
  have k1 := may_iff.1 m1
  have k2 := may_iff.1 m5
  have r1 : relI a b c d = 3 := rel3 (by omega) (by omega) (by omega) (by omega) (by omega) (by omega)
  have r2 : relI (s - b) (s - a) (s - d) (s - c) = 11 := rel11 (by omega) (by omega) (by omega) (by omega) (by omega) (by omega)
  have R : Hid (rlN a b c d = 3 ∧ rlE a b c d = 0 ∧ rlN (s - b) (s - a) (s - d) (s - c) = 11 ∧ rlE (s - b) (s - a) (s - d) (s - c) = 0) := ⟨by rw [(rl_yes m1 m5).1]; exact r1, (rl_yes m1 m5).2, by rw [(rl_yes m4 m6).1]; exact r2, (rl_yes m4 m6).2⟩
  have E1 := Lib.hid ((mirror_back q1))
  have E2 := Lib.hid ((mirror_back q2))
  clear q1 q2 m1 m4 m5 m6 r1 r2 k1 k2 m2 m3 _h0 _h1 _h2 _h3
  go_enter Try.func5, Try.ntmps5
  go_wp2_with fail
  have K : Below w.heap.size w ((w.alloc (.cells #[.int .i64 a, .int .i64 b] 23)).alloc (.cells #[.int .i64 c, .int .i64 d] 23)) := (((Below.refl _ _).alloc (Nat.le_refl _) _).alloc (by first | omega | (simp; done) | (simp; omega)) _)
  have bx0 : Bx ((w.alloc (.cells #[.int .i64 a, .int .i64 b] 23)).alloc (.cells #[.int .i64 c, .int .i64 d] 23)) (w.heap.size) a b := ((Bx.new' (W := w) (n := w.heap.size) (by simp) a b 23).alloc _)
  have bx1 : Bx ((w.alloc (.cells #[.int .i64 a, .int .i64 b] 23)).alloc (.cells #[.int .i64 c, .int .i64 d] 23)) (w.heap.size + 1) c d := (Bx.new' (W := (w.alloc (.cells #[.int .i64 a, .int .i64 b] 23))) (n := w.heap.size + 1) (by simp) c d 23)
  generalize ((w.alloc (.cells #[.int .i64 a, .int .i64 b] 23)).alloc (.cells #[.int .i64 c, .int .i64 d] 23)) = W1 at *
  have c0 := bx0.c0
  have d0 := bx0.c1
  have l0 := bx0.lt
  have c1 := bx1.c0
  have d1 := bx1.c1
  have l1 := bx1.lt
  refine (mirror_any _ a b s).mono ?_
  rintro e V ⟨rfl, hb⟩
  rw [E1.out.1, E1.out.2.1, E1.out.2.2.1]
  clear c0 d0 l0 c1 d1 l1
  have bx0 := bx0.below hb
  have bx1 := bx1.below hb
  have K := K.trans (hb.mono K.size)
  clear hb
  have bx0 := bx0.alloc (.cells #[.int .i64 (s - b), .int .i64 (s - a)] 23)
  have bx1 := bx1.alloc (.cells #[.int .i64 (s - b), .int .i64 (s - a)] 23)
  have bx2 := Bx.new V (s - b) (s - a) 23
  have K := K.alloc K.size (.cells #[.int .i64 (s - b), .int .i64 (s - a)] 23)
  have c0 := bx0.c0
  have d0 := bx0.c1
  have l0 := bx0.lt
  have c1 := bx1.c0
  have d1 := bx1.c1
  have l1 := bx1.lt
  have c2 := bx2.c0
  have d2 := bx2.c1
  have l2 := bx2.lt
  go_wp2_with fail
  clear c0 d0 l0 c1 d1 l1 c2 d2 l2
  have SZ2 := Lib.hid (show (V.alloc (.cells #[.int .i64 (s - b), .int .i64 (s - a)] 23)).heap.size = V.heap.size + 1 by simp)
  generalize (V.alloc (.cells #[.int .i64 (s - b), .int .i64 (s - a)] 23)) = W2 at *
  generalize V.heap.size = n2 at *
  have c0 := bx0.c0
  have d0 := bx0.c1
  have l0 := bx0.lt
  have c1 := bx1.c0
  have d1 := bx1.c1
  have l1 := bx1.lt
  have c2 := bx2.c0
  have d2 := bx2.c1
  have l2 := bx2.lt
  refine (mirror_any _ c d s).mono ?_
  rintro e V ⟨rfl, hb⟩
  rw [E2.out.1, E2.out.2.1, E2.out.2.2.1]
  clear c0 d0 l0 c1 d1 l1 c2 d2 l2
  have bx0 := bx0.below hb
  have bx1 := bx1.below hb
  have bx2 := bx2.below hb
  have K := K.trans (hb.mono K.size)
  clear hb
  have bx0 := bx0.alloc (.cells #[.int .i64 (s - d), .int .i64 (s - c)] 23)
  have bx1 := bx1.alloc (.cells #[.int .i64 (s - d), .int .i64 (s - c)] 23)
  have bx2 := bx2.alloc (.cells #[.int .i64 (s - d), .int .i64 (s - c)] 23)
  have bx3 := Bx.new V (s - d) (s - c) 23
  have K := K.alloc K.size (.cells #[.int .i64 (s - d), .int .i64 (s - c)] 23)
  have c0 := bx0.c0
  have d0 := bx0.c1
  have l0 := bx0.lt
  have c1 := bx1.c0
  have d1 := bx1.c1
  have l1 := bx1.lt
  have c2 := bx2.c0
  have d2 := bx2.c1
  have l2 := bx2.lt
  have c3 := bx3.c0
  have d3 := bx3.c1
  have l3 := bx3.lt
  go_wp2_with fail
  clear c0 d0 l0 c1 d1 l1 c2 d2 l2 c3 d3 l3
  have SZ3 := Lib.hid (show (V.alloc (.cells #[.int .i64 (s - d), .int .i64 (s - c)] 23)).heap.size = V.heap.size + 1 by simp)
  generalize (V.alloc (.cells #[.int .i64 (s - d), .int .i64 (s - c)] 23)) = W3 at *
  generalize V.heap.size = n3 at *
  have c0 := bx0.c0
  have d0 := bx0.c1
  have l0 := bx0.lt
  have c1 := bx1.c0
  have d1 := bx1.c1
  have l1 := bx1.lt
  have c2 := bx2.c0
  have d2 := bx2.c1
  have l2 := bx2.lt
  have c3 := bx3.c0
  have d3 := bx3.c1
  have l3 := bx3.lt
  refine (relate_any _ a b c d).mono ?_
  rintro e V ⟨rfl, hb⟩
  rw [R.out.1, R.out.2.1]
  clear c0 d0 l0 c1 d1 l1 c2 d2 l2 c3 d3 l3
  have bx0 := bx0.below hb
  have bx1 := bx1.below hb
  have bx2 := bx2.below hb
  have bx3 := bx3.below hb
  have K := K.trans (hb.mono K.size)
  clear hb
  generalize V = W4 at *
  have c0 := bx0.c0
  have d0 := bx0.c1
  have l0 := bx0.lt
  have c1 := bx1.c0
  have d1 := bx1.c1
  have l1 := bx1.lt
  have c2 := bx2.c0
  have d2 := bx2.c1
  have l2 := bx2.lt
  have c3 := bx3.c0
  have d3 := bx3.c1
  have l3 := bx3.lt
  go_wp2_with fail
  refine (relate_any _ (s - b) (s - a) (s - d) (s - c)).mono ?_
  rintro e V ⟨rfl, hb⟩
  rw [R.out.2.2.1, R.out.2.2.2]
  clear c0 d0 l0 c1 d1 l1 c2 d2 l2 c3 d3 l3
  have bx0 := bx0.below hb
  have bx1 := bx1.below hb
  have bx2 := bx2.below hb
  have bx3 := bx3.below hb
  have K := K.trans (hb.mono K.size)
  clear hb
  generalize V = W5 at *
  have c0 := bx0.c0
  have d0 := bx0.c1
  have l0 := bx0.lt
  have c1 := bx1.c0
  have d1 := bx1.c1
  have l1 := bx1.lt
  have c2 := bx2.c0
  have d2 := bx2.c1
  have l2 := bx2.lt
  have c3 := bx3.c0
  have d3 := bx3.c1
  have l3 := bx3.lt
  go_wp2_with fail
  have K := K.alloc K.size (.cells #[.int .i64 0, .int .i64 13, .int .i64 12, .int .i64 11, .int .i64 8, .int .i64 5, .int .i64 10, .int .i64 7, .int .i64 4, .int .i64 9, .int .i64 6, .int .i64 3, .int .i64 2, .int .i64 1] 36)
  refine (live_any _).mono ?_
  rintro e V ⟨rfl, hb⟩
  have cw : V.cell? ⟨W5.heap.size, 3, none⟩ = some (.int .i64 11) := by rw [hb.cell (p := ⟨W5.heap.size, 3, none⟩) (by simp)]; simp
  have K := K.trans (hb.mono K.size)
  clear hb
  clear c0 d0 l0 c1 d1 l1 c2 d2 l2 c3 d3 l3
  go_wp2_with fail
  go_ret
  exact ⟨rfl, K⟩

set_option maxHeartbeats 1000000 in
theorem mirrors_4 (w : World) (a b c d s : Int) (q1 : miE a b s = 0) (q2 : miE c d s = 0) (_h0 : c < b) (_h1 : a < d) (_h2 : a < c) (_h3 : b = d) : Calls Try.prog 5 #[sp a b, sp c d, .int .i64 s] w (PV (.bool true) w) := by
  obtain ⟨m1, m2, m3, m4⟩ := miE_zero q1
  obtain ⟨m5, _, _, m6⟩ := miE_zero q2
  have k1 := may_iff.1 m1
  have k2 := may_iff.1 m5
  have r1 : relI a b c d = 4 := rel4 (by omega) (by omega) (by omega) (by omega) (by omega) (by omega)
  have r2 : relI (s - b) (s - a) (s - d) (s - c) = 8 := rel8 (by omega) (by omega) (by omega) (by omega) (by omega) (by omega)
  have R : Hid (rlN a b c d = 4 ∧ rlE a b c d = 0 ∧ rlN (s - b) (s - a) (s - d) (s - c) = 8 ∧ rlE (s - b) (s - a) (s - d) (s - c) = 0) := ⟨by rw [(rl_yes m1 m5).1]; exact r1, (rl_yes m1 m5).2, by rw [(rl_yes m4 m6).1]; exact r2, (rl_yes m4 m6).2⟩
  have E1 := Lib.hid ((mirror_back q1))
  have E2 := Lib.hid ((mirror_back q2))
  clear q1 q2 m1 m4 m5 m6 r1 r2 k1 k2 m2 m3 _h0 _h1 _h2 _h3
  go_enter Try.func5, Try.ntmps5
  go_wp2_with fail
  have K : Below w.heap.size w ((w.alloc (.cells #[.int .i64 a, .int .i64 b] 23)).alloc (.cells #[.int .i64 c, .int .i64 d] 23)) := (((Below.refl _ _).alloc (Nat.le_refl _) _).alloc (by first | omega | (simp; done) | (simp; omega)) _)
  have bx0 : Bx ((w.alloc (.cells #[.int .i64 a, .int .i64 b] 23)).alloc (.cells #[.int .i64 c, .int .i64 d] 23)) (w.heap.size) a b := ((Bx.new' (W := w) (n := w.heap.size) (by simp) a b 23).alloc _)
  have bx1 : Bx ((w.alloc (.cells #[.int .i64 a, .int .i64 b] 23)).alloc (.cells #[.int .i64 c, .int .i64 d] 23)) (w.heap.size + 1) c d := (Bx.new' (W := (w.alloc (.cells #[.int .i64 a, .int .i64 b] 23))) (n := w.heap.size + 1) (by simp) c d 23)
  generalize ((w.alloc (.cells #[.int .i64 a, .int .i64 b] 23)).alloc (.cells #[.int .i64 c, .int .i64 d] 23)) = W1 at *
  have c0 := bx0.c0
  have d0 := bx0.c1
  have l0 := bx0.lt
  have c1 := bx1.c0
  have d1 := bx1.c1
  have l1 := bx1.lt
  refine (mirror_any _ a b s).mono ?_
  rintro e V ⟨rfl, hb⟩
  rw [E1.out.1, E1.out.2.1, E1.out.2.2.1]
  clear c0 d0 l0 c1 d1 l1
  have bx0 := bx0.below hb
  have bx1 := bx1.below hb
  have K := K.trans (hb.mono K.size)
  clear hb
  have bx0 := bx0.alloc (.cells #[.int .i64 (s - b), .int .i64 (s - a)] 23)
  have bx1 := bx1.alloc (.cells #[.int .i64 (s - b), .int .i64 (s - a)] 23)
  have bx2 := Bx.new V (s - b) (s - a) 23
  have K := K.alloc K.size (.cells #[.int .i64 (s - b), .int .i64 (s - a)] 23)
  have c0 := bx0.c0
  have d0 := bx0.c1
  have l0 := bx0.lt
  have c1 := bx1.c0
  have d1 := bx1.c1
  have l1 := bx1.lt
  have c2 := bx2.c0
  have d2 := bx2.c1
  have l2 := bx2.lt
  go_wp2_with fail
  clear c0 d0 l0 c1 d1 l1 c2 d2 l2
  have SZ2 := Lib.hid (show (V.alloc (.cells #[.int .i64 (s - b), .int .i64 (s - a)] 23)).heap.size = V.heap.size + 1 by simp)
  generalize (V.alloc (.cells #[.int .i64 (s - b), .int .i64 (s - a)] 23)) = W2 at *
  generalize V.heap.size = n2 at *
  have c0 := bx0.c0
  have d0 := bx0.c1
  have l0 := bx0.lt
  have c1 := bx1.c0
  have d1 := bx1.c1
  have l1 := bx1.lt
  have c2 := bx2.c0
  have d2 := bx2.c1
  have l2 := bx2.lt
  refine (mirror_any _ c d s).mono ?_
  rintro e V ⟨rfl, hb⟩
  rw [E2.out.1, E2.out.2.1, E2.out.2.2.1]
  clear c0 d0 l0 c1 d1 l1 c2 d2 l2
  have bx0 := bx0.below hb
  have bx1 := bx1.below hb
  have bx2 := bx2.below hb
  have K := K.trans (hb.mono K.size)
  clear hb
  have bx0 := bx0.alloc (.cells #[.int .i64 (s - d), .int .i64 (s - c)] 23)
  have bx1 := bx1.alloc (.cells #[.int .i64 (s - d), .int .i64 (s - c)] 23)
  have bx2 := bx2.alloc (.cells #[.int .i64 (s - d), .int .i64 (s - c)] 23)
  have bx3 := Bx.new V (s - d) (s - c) 23
  have K := K.alloc K.size (.cells #[.int .i64 (s - d), .int .i64 (s - c)] 23)
  have c0 := bx0.c0
  have d0 := bx0.c1
  have l0 := bx0.lt
  have c1 := bx1.c0
  have d1 := bx1.c1
  have l1 := bx1.lt
  have c2 := bx2.c0
  have d2 := bx2.c1
  have l2 := bx2.lt
  have c3 := bx3.c0
  have d3 := bx3.c1
  have l3 := bx3.lt
  go_wp2_with fail
  clear c0 d0 l0 c1 d1 l1 c2 d2 l2 c3 d3 l3
  have SZ3 := Lib.hid (show (V.alloc (.cells #[.int .i64 (s - d), .int .i64 (s - c)] 23)).heap.size = V.heap.size + 1 by simp)
  generalize (V.alloc (.cells #[.int .i64 (s - d), .int .i64 (s - c)] 23)) = W3 at *
  generalize V.heap.size = n3 at *
  have c0 := bx0.c0
  have d0 := bx0.c1
  have l0 := bx0.lt
  have c1 := bx1.c0
  have d1 := bx1.c1
  have l1 := bx1.lt
  have c2 := bx2.c0
  have d2 := bx2.c1
  have l2 := bx2.lt
  have c3 := bx3.c0
  have d3 := bx3.c1
  have l3 := bx3.lt
  refine (relate_any _ a b c d).mono ?_
  rintro e V ⟨rfl, hb⟩
  rw [R.out.1, R.out.2.1]
  clear c0 d0 l0 c1 d1 l1 c2 d2 l2 c3 d3 l3
  have bx0 := bx0.below hb
  have bx1 := bx1.below hb
  have bx2 := bx2.below hb
  have bx3 := bx3.below hb
  have K := K.trans (hb.mono K.size)
  clear hb
  generalize V = W4 at *
  have c0 := bx0.c0
  have d0 := bx0.c1
  have l0 := bx0.lt
  have c1 := bx1.c0
  have d1 := bx1.c1
  have l1 := bx1.lt
  have c2 := bx2.c0
  have d2 := bx2.c1
  have l2 := bx2.lt
  have c3 := bx3.c0
  have d3 := bx3.c1
  have l3 := bx3.lt
  go_wp2_with fail
  refine (relate_any _ (s - b) (s - a) (s - d) (s - c)).mono ?_
  rintro e V ⟨rfl, hb⟩
  rw [R.out.2.2.1, R.out.2.2.2]
  clear c0 d0 l0 c1 d1 l1 c2 d2 l2 c3 d3 l3
  have bx0 := bx0.below hb
  have bx1 := bx1.below hb
  have bx2 := bx2.below hb
  have bx3 := bx3.below hb
  have K := K.trans (hb.mono K.size)
  clear hb
  generalize V = W5 at *
  have c0 := bx0.c0
  have d0 := bx0.c1
  have l0 := bx0.lt
  have c1 := bx1.c0
  have d1 := bx1.c1
  have l1 := bx1.lt
  have c2 := bx2.c0
  have d2 := bx2.c1
  have l2 := bx2.lt
  have c3 := bx3.c0
  have d3 := bx3.c1
  have l3 := bx3.lt
  go_wp2_with fail
  have K := K.alloc K.size (.cells #[.int .i64 0, .int .i64 13, .int .i64 12, .int .i64 11, .int .i64 8, .int .i64 5, .int .i64 10, .int .i64 7, .int .i64 4, .int .i64 9, .int .i64 6, .int .i64 3, .int .i64 2, .int .i64 1] 36)
  refine (live_any _).mono ?_
  rintro e V ⟨rfl, hb⟩
  have cw : V.cell? ⟨W5.heap.size, 4, none⟩ = some (.int .i64 8) := by rw [hb.cell (p := ⟨W5.heap.size, 4, none⟩) (by simp)]; simp
  have K := K.trans (hb.mono K.size)
  clear hb
  clear c0 d0 l0 c1 d1 l1 c2 d2 l2 c3 d3 l3
  go_wp2_with fail
  go_ret
  exact ⟨rfl, K⟩

set_option maxHeartbeats 1000000 in
theorem mirrors_5 (w : World) (a b c d s : Int) (q1 : miE a b s = 0) (q2 : miE c d s = 0) (_h0 : c < b) (_h1 : a < d) (_h2 : a < c) (_h3 : d < b) : Calls Try.prog 5 #[sp a b, sp c d, .int .i64 s] w (PV (.bool true) w) := by
  obtain ⟨m1, m2, m3, m4⟩ := miE_zero q1
  obtain ⟨m5, _, _, m6⟩ := miE_zero q2
  have k1 := may_iff.1 m1
  have k2 := may_iff.1 m5
  have r1 : relI a b c d = 5 := rel5 (by omega) (by omega) (by omega) (by omega) (by omega) (by omega)
  have r2 : relI (s - b) (s - a) (s - d) (s - c) = 5 := rel5 (by omega) (by omega) (by omega) (by omega) (by omega) (by omega)
  have R : Hid (rlN a b c d = 5 ∧ rlE a b c d = 0 ∧ rlN (s - b) (s - a) (s - d) (s - c) = 5 ∧ rlE (s - b) (s - a) (s - d) (s - c) = 0) := ⟨by rw [(rl_yes m1 m5).1]; exact r1, (rl_yes m1 m5).2, by rw [(rl_yes m4 m6).1]; exact r2, (rl_yes m4 m6).2⟩
  have E1 := Lib.hid ((mirror_back q1))
  have E2 := Lib.hid ((mirror_back q2))
  clear q1 q2 m1 m4 m5 m6 r1 r2 k1 k2 m2 m3 _h0 _h1 _h2 _h3
  go_enter Try.func5, Try.ntmps5
  go_wp2_with fail
  have K : Below w.heap.size w ((w.alloc (.cells #[.int .i64 a, .int .i64 b] 23)).alloc (.cells #[.int .i64 c, .int .i64 d] 23)) := (((Below.refl _ _).alloc (Nat.le_refl _) _).alloc (by first | omega | (simp; done) | (simp; omega)) _)
  have bx0 : Bx ((w.alloc (.cells #[.int .i64 a, .int .i64 b] 23)).alloc (.cells #[.int .i64 c, .int .i64 d] 23)) (w.heap.size) a b := ((Bx.new' (W := w) (n := w.heap.size) (by simp) a b 23).alloc _)
  have bx1 : Bx ((w.alloc (.cells #[.int .i64 a, .int .i64 b] 23)).alloc (.cells #[.int .i64 c, .int .i64 d] 23)) (w.heap.size + 1) c d := (Bx.new' (W := (w.alloc (.cells #[.int .i64 a, .int .i64 b] 23))) (n := w.heap.size + 1) (by simp) c d 23)
  generalize ((w.alloc (.cells #[.int .i64 a, .int .i64 b] 23)).alloc (.cells #[.int .i64 c, .int .i64 d] 23)) = W1 at *
  have c0 := bx0.c0
  have d0 := bx0.c1
  have l0 := bx0.lt
  have c1 := bx1.c0
  have d1 := bx1.c1
  have l1 := bx1.lt
  refine (mirror_any _ a b s).mono ?_
  rintro e V ⟨rfl, hb⟩
  rw [E1.out.1, E1.out.2.1, E1.out.2.2.1]
  clear c0 d0 l0 c1 d1 l1
  have bx0 := bx0.below hb
  have bx1 := bx1.below hb
  have K := K.trans (hb.mono K.size)
  clear hb
  have bx0 := bx0.alloc (.cells #[.int .i64 (s - b), .int .i64 (s - a)] 23)
  have bx1 := bx1.alloc (.cells #[.int .i64 (s - b), .int .i64 (s - a)] 23)
  have bx2 := Bx.new V (s - b) (s - a) 23
  have K := K.alloc K.size (.cells #[.int .i64 (s - b), .int .i64 (s - a)] 23)
  have c0 := bx0.c0
  have d0 := bx0.c1
  have l0 := bx0.lt
  have c1 := bx1.c0
  have d1 := bx1.c1
  have l1 := bx1.lt
  have c2 := bx2.c0
  have d2 := bx2.c1
  have l2 := bx2.lt
  go_wp2_with fail
  clear c0 d0 l0 c1 d1 l1 c2 d2 l2
  have SZ2 := Lib.hid (show (V.alloc (.cells #[.int .i64 (s - b), .int .i64 (s - a)] 23)).heap.size = V.heap.size + 1 by simp)
  generalize (V.alloc (.cells #[.int .i64 (s - b), .int .i64 (s - a)] 23)) = W2 at *
  generalize V.heap.size = n2 at *
  have c0 := bx0.c0
  have d0 := bx0.c1
  have l0 := bx0.lt
  have c1 := bx1.c0
  have d1 := bx1.c1
  have l1 := bx1.lt
  have c2 := bx2.c0
  have d2 := bx2.c1
  have l2 := bx2.lt
  refine (mirror_any _ c d s).mono ?_
  rintro e V ⟨rfl, hb⟩
  rw [E2.out.1, E2.out.2.1, E2.out.2.2.1]
  clear c0 d0 l0 c1 d1 l1 c2 d2 l2
  have bx0 := bx0.below hb
  have bx1 := bx1.below hb
  have bx2 := bx2.below hb
  have K := K.trans (hb.mono K.size)
  clear hb
  have bx0 := bx0.alloc (.cells #[.int .i64 (s - d), .int .i64 (s - c)] 23)
  have bx1 := bx1.alloc (.cells #[.int .i64 (s - d), .int .i64 (s - c)] 23)
  have bx2 := bx2.alloc (.cells #[.int .i64 (s - d), .int .i64 (s - c)] 23)
  have bx3 := Bx.new V (s - d) (s - c) 23
  have K := K.alloc K.size (.cells #[.int .i64 (s - d), .int .i64 (s - c)] 23)
  have c0 := bx0.c0
  have d0 := bx0.c1
  have l0 := bx0.lt
  have c1 := bx1.c0
  have d1 := bx1.c1
  have l1 := bx1.lt
  have c2 := bx2.c0
  have d2 := bx2.c1
  have l2 := bx2.lt
  have c3 := bx3.c0
  have d3 := bx3.c1
  have l3 := bx3.lt
  go_wp2_with fail
  clear c0 d0 l0 c1 d1 l1 c2 d2 l2 c3 d3 l3
  have SZ3 := Lib.hid (show (V.alloc (.cells #[.int .i64 (s - d), .int .i64 (s - c)] 23)).heap.size = V.heap.size + 1 by simp)
  generalize (V.alloc (.cells #[.int .i64 (s - d), .int .i64 (s - c)] 23)) = W3 at *
  generalize V.heap.size = n3 at *
  have c0 := bx0.c0
  have d0 := bx0.c1
  have l0 := bx0.lt
  have c1 := bx1.c0
  have d1 := bx1.c1
  have l1 := bx1.lt
  have c2 := bx2.c0
  have d2 := bx2.c1
  have l2 := bx2.lt
  have c3 := bx3.c0
  have d3 := bx3.c1
  have l3 := bx3.lt
  refine (relate_any _ a b c d).mono ?_
  rintro e V ⟨rfl, hb⟩
  rw [R.out.1, R.out.2.1]
  clear c0 d0 l0 c1 d1 l1 c2 d2 l2 c3 d3 l3
  have bx0 := bx0.below hb
  have bx1 := bx1.below hb
  have bx2 := bx2.below hb
  have bx3 := bx3.below hb
  have K := K.trans (hb.mono K.size)
  clear hb
  generalize V = W4 at *
  have c0 := bx0.c0
  have d0 := bx0.c1
  have l0 := bx0.lt
  have c1 := bx1.c0
  have d1 := bx1.c1
  have l1 := bx1.lt
  have c2 := bx2.c0
  have d2 := bx2.c1
  have l2 := bx2.lt
  have c3 := bx3.c0
  have d3 := bx3.c1
  have l3 := bx3.lt
  go_wp2_with fail
  refine (relate_any _ (s - b) (s - a) (s - d) (s - c)).mono ?_
  rintro e V ⟨rfl, hb⟩
  rw [R.out.2.2.1, R.out.2.2.2]
  clear c0 d0 l0 c1 d1 l1 c2 d2 l2 c3 d3 l3
  have bx0 := bx0.below hb
  have bx1 := bx1.below hb
  have bx2 := bx2.below hb
  have bx3 := bx3.below hb
  have K := K.trans (hb.mono K.size)
  clear hb
  generalize V = W5 at *
  have c0 := bx0.c0
  have d0 := bx0.c1
  have l0 := bx0.lt
  have c1 := bx1.c0
  have d1 := bx1.c1
  have l1 := bx1.lt
  have c2 := bx2.c0
  have d2 := bx2.c1
  have l2 := bx2.lt
  have c3 := bx3.c0
  have d3 := bx3.c1
  have l3 := bx3.lt
  go_wp2_with fail
  have K := K.alloc K.size (.cells #[.int .i64 0, .int .i64 13, .int .i64 12, .int .i64 11, .int .i64 8, .int .i64 5, .int .i64 10, .int .i64 7, .int .i64 4, .int .i64 9, .int .i64 6, .int .i64 3, .int .i64 2, .int .i64 1] 36)
  refine (live_any _).mono ?_
  rintro e V ⟨rfl, hb⟩
  have cw : V.cell? ⟨W5.heap.size, 5, none⟩ = some (.int .i64 5) := by rw [hb.cell (p := ⟨W5.heap.size, 5, none⟩) (by simp)]; simp
  have K := K.trans (hb.mono K.size)
  clear hb
  clear c0 d0 l0 c1 d1 l1 c2 d2 l2 c3 d3 l3
  go_wp2_with fail
  go_ret
  exact ⟨rfl, K⟩

set_option maxHeartbeats 1000000 in
theorem mirrors_6 (w : World) (a b c d s : Int) (q1 : miE a b s = 0) (q2 : miE c d s = 0) (_h0 : c < b) (_h1 : a < d) (_h2 : a = c) (_h3 : b < d) : Calls Try.prog 5 #[sp a b, sp c d, .int .i64 s] w (PV (.bool true) w) := by
  obtain ⟨m1, m2, m3, m4⟩ := miE_zero q1
  obtain ⟨m5, _, _, m6⟩ := miE_zero q2
  have k1 := may_iff.1 m1
  have k2 := may_iff.1 m5
  have r1 : relI a b c d = 6 := rel6 (by omega) (by omega) (by omega) (by omega) (by omega) (by omega)
  have r2 : relI (s - b) (s - a) (s - d) (s - c) = 10 := rel10 (by omega) (by omega) (by omega) (by omega) (by omega) (by omega)
  have R : Hid (rlN a b c d = 6 ∧ rlE a b c d = 0 ∧ rlN (s - b) (s - a) (s - d) (s - c) = 10 ∧ rlE (s - b) (s - a) (s - d) (s - c) = 0) := ⟨by rw [(rl_yes m1 m5).1]; exact r1, (rl_yes m1 m5).2, by rw [(rl_yes m4 m6).1]; exact r2, (rl_yes m4 m6).2⟩
  have E1 := Lib.hid ((mirror_back q1))
  have E2 := Lib.hid ((mirror_back q2))
  clear q1 q2 m1 m4 m5 m6 r1 r2 k1 k2 m2 m3 _h0 _h1 _h2 _h3
  go_enter Try.func5, Try.ntmps5
  go_wp2_with fail
  have K : Below w.heap.size w ((w.alloc (.cells #[.int .i64 a, .int .i64 b] 23)).alloc (.cells #[.int .i64 c, .int .i64 d] 23)) := (((Below.refl _ _).alloc (Nat.le_refl _) _).alloc (by first | omega | (simp; done) | (simp; omega)) _)
  have bx0 : Bx ((w.alloc (.cells #[.int .i64 a, .int .i64 b] 23)).alloc (.cells #[.int .i64 c, .int .i64 d] 23)) (w.heap.size) a b := ((Bx.new' (W := w) (n := w.heap.size) (by simp) a b 23).alloc _)
  have bx1 : Bx ((w.alloc (.cells #[.int .i64 a, .int .i64 b] 23)).alloc (.cells #[.int .i64 c, .int .i64 d] 23)) (w.heap.size + 1) c d := (Bx.new' (W := (w.alloc (.cells #[.int .i64 a, .int .i64 b] 23))) (n := w.heap.size + 1) (by simp) c d 23)
  generalize ((w.alloc (.cells #[.int .i64 a, .int .i64 b] 23)).alloc (.cells #[.int .i64 c, .int .i64 d] 23)) = W1 at *
  have c0 := bx0.c0
  have d0 := bx0.c1
  have l0 := bx0.lt
  have c1 := bx1.c0
  have d1 := bx1.c1
  have l1 := bx1.lt
  refine (mirror_any _ a b s).mono ?_
  rintro e V ⟨rfl, hb⟩
  rw [E1.out.1, E1.out.2.1, E1.out.2.2.1]
  clear c0 d0 l0 c1 d1 l1
  have bx0 := bx0.below hb
  have bx1 := bx1.below hb
  have K := K.trans (hb.mono K.size)
  clear hb
  have bx0 := bx0.alloc (.cells #[.int .i64 (s - b), .int .i64 (s - a)] 23)
  have bx1 := bx1.alloc (.cells #[.int .i64 (s - b), .int .i64 (s - a)] 23)
  have bx2 := Bx.new V (s - b) (s - a) 23
  have K := K.alloc K.size (.cells #[.int .i64 (s - b), .int .i64 (s - a)] 23)
  have c0 := bx0.c0
  have d0 := bx0.c1
  have l0 := bx0.lt
  have c1 := bx1.c0
  have d1 := bx1.c1
  have l1 := bx1.lt
  have c2 := bx2.c0
  have d2 := bx2.c1
  have l2 := bx2.lt
  go_wp2_with fail
  clear c0 d0 l0 c1 d1 l1 c2 d2 l2
  have SZ2 := Lib.hid (show (V.alloc (.cells #[.int .i64 (s - b), .int .i64 (s - a)] 23)).heap.size = V.heap.size + 1 by simp)
  generalize (V.alloc (.cells #[.int .i64 (s - b), .int .i64 (s - a)] 23)) = W2 at *
  generalize V.heap.size = n2 at *
  have c0 := bx0.c0
  have d0 := bx0.c1
  have l0 := bx0.lt
  have c1 := bx1.c0
  have d1 := bx1.c1
  have l1 := bx1.lt
  have c2 := bx2.c0
  have d2 := bx2.c1
  have l2 := bx2.lt
  refine (mirror_any _ c d s).mono ?_
  rintro e V ⟨rfl, hb⟩
  rw [E2.out.1, E2.out.2.1, E2.out.2.2.1]
  clear c0 d0 l0 c1 d1 l1 c2 d2 l2
  have bx0 := bx0.below hb
  have bx1 := bx1.below hb
  have bx2 := bx2.below hb
  have K := K.trans (hb.mono K.size)
  clear hb
  have bx0 := bx0.alloc (.cells #[.int .i64 (s - d), .int .i64 (s - c)] 23)
  have bx1 := bx1.alloc (.cells #[.int .i64 (s - d), .int .i64 (s - c)] 23)
  have bx2 := bx2.alloc (.cells #[.int .i64 (s - d), .int .i64 (s - c)] 23)
  have bx3 := Bx.new V (s - d) (s - c) 23
  have K := K.alloc K.size (.cells #[.int .i64 (s - d), .int .i64 (s - c)] 23)
  have c0 := bx0.c0
  have d0 := bx0.c1
  have l0 := bx0.lt
  have c1 := bx1.c0
  have d1 := bx1.c1
  have l1 := bx1.lt
  have c2 := bx2.c0
  have d2 := bx2.c1
  have l2 := bx2.lt
  have c3 := bx3.c0
  have d3 := bx3.c1
  have l3 := bx3.lt
  go_wp2_with fail
  clear c0 d0 l0 c1 d1 l1 c2 d2 l2 c3 d3 l3
  have SZ3 := Lib.hid (show (V.alloc (.cells #[.int .i64 (s - d), .int .i64 (s - c)] 23)).heap.size = V.heap.size + 1 by simp)
  generalize (V.alloc (.cells #[.int .i64 (s - d), .int .i64 (s - c)] 23)) = W3 at *
  generalize V.heap.size = n3 at *
  have c0 := bx0.c0
  have d0 := bx0.c1
  have l0 := bx0.lt
  have c1 := bx1.c0
  have d1 := bx1.c1
  have l1 := bx1.lt
  have c2 := bx2.c0
  have d2 := bx2.c1
  have l2 := bx2.lt
  have c3 := bx3.c0
  have d3 := bx3.c1
  have l3 := bx3.lt
  refine (relate_any _ a b c d).mono ?_
  rintro e V ⟨rfl, hb⟩
  rw [R.out.1, R.out.2.1]
  clear c0 d0 l0 c1 d1 l1 c2 d2 l2 c3 d3 l3
  have bx0 := bx0.below hb
  have bx1 := bx1.below hb
  have bx2 := bx2.below hb
  have bx3 := bx3.below hb
  have K := K.trans (hb.mono K.size)
  clear hb
  generalize V = W4 at *
  have c0 := bx0.c0
  have d0 := bx0.c1
  have l0 := bx0.lt
  have c1 := bx1.c0
  have d1 := bx1.c1
  have l1 := bx1.lt
  have c2 := bx2.c0
  have d2 := bx2.c1
  have l2 := bx2.lt
  have c3 := bx3.c0
  have d3 := bx3.c1
  have l3 := bx3.lt
  go_wp2_with fail
  refine (relate_any _ (s - b) (s - a) (s - d) (s - c)).mono ?_
  rintro e V ⟨rfl, hb⟩
  rw [R.out.2.2.1, R.out.2.2.2]
  clear c0 d0 l0 c1 d1 l1 c2 d2 l2 c3 d3 l3
  have bx0 := bx0.below hb
  have bx1 := bx1.below hb
  have bx2 := bx2.below hb
  have bx3 := bx3.below hb
  have K := K.trans (hb.mono K.size)
  clear hb
  generalize V = W5 at *
  have c0 := bx0.c0
  have d0 := bx0.c1
  have l0 := bx0.lt
  have c1 := bx1.c0
  have d1 := bx1.c1
  have l1 := bx1.lt
  have c2 := bx2.c0
  have d2 := bx2.c1
  have l2 := bx2.lt
  have c3 := bx3.c0
  have d3 := bx3.c1
  have l3 := bx3.lt
  go_wp2_with fail
  have K := K.alloc K.size (.cells #[.int .i64 0, .int .i64 13, .int .i64 12, .int .i64 11, .int .i64 8, .int .i64 5, .int .i64 10, .int .i64 7, .int .i64 4, .int .i64 9, .int .i64 6, .int .i64 3, .int .i64 2, .int .i64 1] 36)
  refine (live_any _).mono ?_
  rintro e V ⟨rfl, hb⟩
  have cw : V.cell? ⟨W5.heap.size, 6, none⟩ = some (.int .i64 10) := by rw [hb.cell (p := ⟨W5.heap.size, 6, none⟩) (by simp)]; simp
  have K := K.trans (hb.mono K.size)
  clear hb
  clear c0 d0 l0 c1 d1 l1 c2 d2 l2 c3 d3 l3
  go_wp2_with fail
  go_ret
  exact ⟨rfl, K⟩

set_option maxHeartbeats 1000000 in
theorem mirrors_7 (w : World) (a b c d s : Int) (q1 : miE a b s = 0) (q2 : miE c d s = 0) (_h0 : c < b) (_h1 : a < d) (_h2 : a = c) (_h3 : b = d) : Calls Try.prog 5 #[sp a b, sp c d, .int .i64 s] w (PV (.bool true) w) := by
  obtain ⟨m1, m2, m3, m4⟩ := miE_zero q1
  obtain ⟨m5, _, _, m6⟩ := miE_zero q2
  have k1 := may_iff.1 m1
  have k2 := may_iff.1 m5
  have r1 : relI a b c d = 7 := rel7 (by omega) (by omega) (by omega) (by omega) (by omega) (by omega)
  have r2 : relI (s - b) (s - a) (s - d) (s - c) = 7 := rel7 (by omega) (by omega) (by omega) (by omega) (by omega) (by omega)
  have R : Hid (rlN a b c d = 7 ∧ rlE a b c d = 0 ∧ rlN (s - b) (s - a) (s - d) (s - c) = 7 ∧ rlE (s - b) (s - a) (s - d) (s - c) = 0) := ⟨by rw [(rl_yes m1 m5).1]; exact r1, (rl_yes m1 m5).2, by rw [(rl_yes m4 m6).1]; exact r2, (rl_yes m4 m6).2⟩
  have E1 := Lib.hid ((mirror_back q1))
  have E2 := Lib.hid ((mirror_back q2))
  clear q1 q2 m1 m4 m5 m6 r1 r2 k1 k2 m2 m3 _h0 _h1 _h2 _h3
  go_enter Try.func5, Try.ntmps5
  go_wp2_with fail
  have K : Below w.heap.size w ((w.alloc (.cells #[.int .i64 a, .int .i64 b] 23)).alloc (.cells #[.int .i64 c, .int .i64 d] 23)) := (((Below.refl _ _).alloc (Nat.le_refl _) _).alloc (by first | omega | (simp; done) | (simp; omega)) _)
  have bx0 : Bx ((w.alloc (.cells #[.int .i64 a, .int .i64 b] 23)).alloc (.cells #[.int .i64 c, .int .i64 d] 23)) (w.heap.size) a b := ((Bx.new' (W := w) (n := w.heap.size) (by simp) a b 23).alloc _)
  have bx1 : Bx ((w.alloc (.cells #[.int .i64 a, .int .i64 b] 23)).alloc (.cells #[.int .i64 c, .int .i64 d] 23)) (w.heap.size + 1) c d := (Bx.new' (W := (w.alloc (.cells #[.int .i64 a, .int .i64 b] 23))) (n := w.heap.size + 1) (by simp) c d 23)
  generalize ((w.alloc (.cells #[.int .i64 a, .int .i64 b] 23)).alloc (.cells #[.int .i64 c, .int .i64 d] 23)) = W1 at *
  have c0 := bx0.c0
  have d0 := bx0.c1
  have l0 := bx0.lt
  have c1 := bx1.c0
  have d1 := bx1.c1
  have l1 := bx1.lt
  refine (mirror_any _ a b s).mono ?_
  rintro e V ⟨rfl, hb⟩
  rw [E1.out.1, E1.out.2.1, E1.out.2.2.1]
  clear c0 d0 l0 c1 d1 l1
  have bx0 := bx0.below hb
  have bx1 := bx1.below hb
  have K := K.trans (hb.mono K.size)
  clear hb
  have bx0 := bx0.alloc (.cells #[.int .i64 (s - b), .int .i64 (s - a)] 23)
  have bx1 := bx1.alloc (.cells #[.int .i64 (s - b), .int .i64 (s - a)] 23)
  have bx2 := Bx.new V (s - b) (s - a) 23
  have K := K.alloc K.size (.cells #[.int .i64 (s - b), .int .i64 (s - a)] 23)
  have c0 := bx0.c0
  have d0 := bx0.c1
  have l0 := bx0.lt
  have c1 := bx1.c0
  have d1 := bx1.c1
  have l1 := bx1.lt
  have c2 := bx2.c0
  have d2 := bx2.c1
  have l2 := bx2.lt
  go_wp2_with fail
  clear c0 d0 l0 c1 d1 l1 c2 d2 l2
  have SZ2 := Lib.hid (show (V.alloc (.cells #[.int .i64 (s - b), .int .i64 (s - a)] 23)).heap.size = V.heap.size + 1 by simp)
  generalize (V.alloc (.cells #[.int .i64 (s - b), .int .i64 (s - a)] 23)) = W2 at *
  generalize V.heap.size = n2 at *
  have c0 := bx0.c0
  have d0 := bx0.c1
  have l0 := bx0.lt
  have c1 := bx1.c0
  have d1 := bx1.c1
  have l1 := bx1.lt
  have c2 := bx2.c0
  have d2 := bx2.c1
  have l2 := bx2.lt
  refine (mirror_any _ c d s).mono ?_
  rintro e V ⟨rfl, hb⟩
  rw [E2.out.1, E2.out.2.1, E2.out.2.2.1]
  clear c0 d0 l0 c1 d1 l1 c2 d2 l2
  have bx0 := bx0.below hb
  have bx1 := bx1.below hb
  have bx2 := bx2.below hb
  have K := K.trans (hb.mono K.size)
  clear hb
  have bx0 := bx0.alloc (.cells #[.int .i64 (s - d), .int .i64 (s - c)] 23)
  have bx1 := bx1.alloc (.cells #[.int .i64 (s - d), .int .i64 (s - c)] 23)
  have bx2 := bx2.alloc (.cells #[.int .i64 (s - d), .int .i64 (s - c)] 23)
  have bx3 := Bx.new V (s - d) (s - c) 23
  have K := K.alloc K.size (.cells #[.int .i64 (s - d), .int .i64 (s - c)] 23)
  have c0 := bx0.c0
  have d0 := bx0.c1
  have l0 := bx0.lt
  have c1 := bx1.c0
  have d1 := bx1.c1
  have l1 := bx1.lt
  have c2 := bx2.c0
  have d2 := bx2.c1
  have l2 := bx2.lt
  have c3 := bx3.c0
  have d3 := bx3.c1
  have l3 := bx3.lt
  go_wp2_with fail
  clear c0 d0 l0 c1 d1 l1 c2 d2 l2 c3 d3 l3
  have SZ3 := Lib.hid (show (V.alloc (.cells #[.int .i64 (s - d), .int .i64 (s - c)] 23)).heap.size = V.heap.size + 1 by simp)
  generalize (V.alloc (.cells #[.int .i64 (s - d), .int .i64 (s - c)] 23)) = W3 at *
  generalize V.heap.size = n3 at *
  have c0 := bx0.c0
  have d0 := bx0.c1
  have l0 := bx0.lt
  have c1 := bx1.c0
  have d1 := bx1.c1
  have l1 := bx1.lt
  have c2 := bx2.c0
  have d2 := bx2.c1
  have l2 := bx2.lt
  have c3 := bx3.c0
  have d3 := bx3.c1
  have l3 := bx3.lt
  refine (relate_any _ a b c d).mono ?_
  rintro e V ⟨rfl, hb⟩
  rw [R.out.1, R.out.2.1]
  clear c0 d0 l0 c1 d1 l1 c2 d2 l2 c3 d3 l3
  have bx0 := bx0.below hb
  have bx1 := bx1.below hb
  have bx2 := bx2.below hb
  have bx3 := bx3.below hb
  have K := K.trans (hb.mono K.size)
  clear hb
  generalize V = W4 at *
  have c0 := bx0.c0
  have d0 := bx0.c1
  have l0 := bx0.lt
  have c1 := bx1.c0
  have d1 := bx1.c1
  have l1 := bx1.lt
  have c2 := bx2.c0
  have d2 := bx2.c1
  have l2 := bx2.lt
  have c3 := bx3.c0
  have d3 := bx3.c1
  have l3 := bx3.lt
  go_wp2_with fail
  refine (relate_any _ (s - b) (s - a) (s - d) (s - c)).mono ?_
  rintro e V ⟨rfl, hb⟩
  rw [R.out.2.2.1, R.out.2.2.2]
  clear c0 d0 l0 c1 d1 l1 c2 d2 l2 c3 d3 l3
  have bx0 := bx0.below hb
  have bx1 := bx1.below hb
  have bx2 := bx2.below hb
  have bx3 := bx3.below hb
  have K := K.trans (hb.mono K.size)
  clear hb
  generalize V = W5 at *
  have c0 := bx0.c0
  have d0 := bx0.c1
  have l0 := bx0.lt
  have c1 := bx1.c0
  have d1 := bx1.c1
  have l1 := bx1.lt
  have c2 := bx2.c0
  have d2 := bx2.c1
  have l2 := bx2.lt
  have c3 := bx3.c0
  have d3 := bx3.c1
  have l3 := bx3.lt
  go_wp2_with fail
  have K := K.alloc K.size (.cells #[.int .i64 0, .int .i64 13, .int .i64 12, .int .i64 11, .int .i64 8, .int .i64 5, .int .i64 10, .int .i64 7, .int .i64 4, .int .i64 9, .int .i64 6, .int .i64 3, .int .i64 2, .int .i64 1] 36)
  refine (live_any _).mono ?_
  rintro e V ⟨rfl, hb⟩
  have cw : V.cell? ⟨W5.heap.size, 7, none⟩ = some (.int .i64 7) := by rw [hb.cell (p := ⟨W5.heap.size, 7, none⟩) (by simp)]; simp
  have K := K.trans (hb.mono K.size)
  clear hb
  clear c0 d0 l0 c1 d1 l1 c2 d2 l2 c3 d3 l3
  go_wp2_with fail
  go_ret
  exact ⟨rfl, K⟩

set_option maxHeartbeats 1000000 in
theorem mirrors_8 (w : World) (a b c d s : Int) (q1 : miE a b s = 0) (q2 : miE c d s = 0) (_h0 : c < b) (_h1 : a < d) (_h2 : a = c) (_h3 : d < b) : Calls Try.prog 5 #[sp a b, sp c d, .int .i64 s] w (PV (.bool true) w) := by
  obtain ⟨m1, m2, m3, m4⟩ := miE_zero q1
  obtain ⟨m5, _, _, m6⟩ := miE_zero q2
  have k1 := may_iff.1 m1
  have k2 := may_iff.1 m5
  have r1 : relI a b c d = 8 := rel8 (by omega) (by omega) (by omega) (by omega) (by omega) (by omega)
  have r2 : relI (s - b) (s - a) (s - d) (s - c) = 4 := rel4 (by omega) (by omega) (by omega) (by omega) (by omega) (by omega)
  have R : Hid (rlN a b c d = 8 ∧ rlE a b c d = 0 ∧ rlN (s - b) (s - a) (s - d) (s - c) = 4 ∧ rlE (s - b) (s - a) (s - d) (s - c) = 0) := ⟨by rw [(rl_yes m1 m5).1]; exact r1, (rl_yes m1 m5).2, by rw [(rl_yes m4 m6).1]; exact r2, (rl_yes m4 m6).2⟩
  have E1 := Lib.hid ((mirror_back q1))
  have E2 := Lib.hid ((mirror_back q2))
  clear q1 q2 m1 m4 m5 m6 r1 r2 k1 k2 m2 m3 _h0 _h1 _h2 _h3
  go_enter Try.func5, Try.ntmps5
  go_wp2_with fail
  have K : Below w.heap.size w ((w.alloc (.cells #[.int .i64 a, .int .i64 b] 23)).alloc (.cells #[.int .i64 c, .int .i64 d] 23)) := (((Below.refl _ _).alloc (Nat.le_refl _) _).alloc (by first | omega | (simp; done) | (simp; omega)) _)
  have bx0 : Bx ((w.alloc (.cells #[.int .i64 a, .int .i64 b] 23)).alloc (.cells #[.int .i64 c, .int .i64 d] 23)) (w.heap.size) a b := ((Bx.new' (W := w) (n := w.heap.size) (by simp) a b 23).alloc _)
  have bx1 : Bx ((w.alloc (.cells #[.int .i64 a, .int .i64 b] 23)).alloc (.cells #[.int .i64 c, .int .i64 d] 23)) (w.heap.size + 1) c d := (Bx.new' (W := (w.alloc (.cells #[.int .i64 a, .int .i64 b] 23))) (n := w.heap.size + 1) (by simp) c d 23)
  generalize ((w.alloc (.cells #[.int .i64 a, .int .i64 b] 23)).alloc (.cells #[.int .i64 c, .int .i64 d] 23)) = W1 at *
  have c0 := bx0.c0
  have d0 := bx0.c1
  have l0 := bx0.lt
  have c1 := bx1.c0
  have d1 := bx1.c1
  have l1 := bx1.lt
  refine (mirror_any _ a b s).mono ?_
  rintro e V ⟨rfl, hb⟩
  rw [E1.out.1, E1.out.2.1, E1.out.2.2.1]
  clear c0 d0 l0 c1 d1 l1
  have bx0 := bx0.below hb
  have bx1 := bx1.below hb
  have K := K.trans (hb.mono K.size)
  clear hb
  have bx0 := bx0.alloc (.cells #[.int .i64 (s - b), .int .i64 (s - a)] 23)
  have bx1 := bx1.alloc (.cells #[.int .i64 (s - b), .int .i64 (s - a)] 23)
  have bx2 := Bx.new V (s - b) (s - a) 23
  have K := K.alloc K.size (.cells #[.int .i64 (s - b), .int .i64 (s - a)] 23)
  have c0 := bx0.c0
  have d0 := bx0.c1
  have l0 := bx0.lt
  have c1 := bx1.c0
  have d1 := bx1.c1
  have l1 := bx1.lt
  have c2 := bx2.c0
  have d2 := bx2.c1
  have l2 := bx2.lt
  go_wp2_with fail
  clear c0 d0 l0 c1 d1 l1 c2 d2 l2
  have SZ2 := Lib.hid (show (V.alloc (.cells #[.int .i64 (s - b), .int .i64 (s - a)] 23)).heap.size = V.heap.size + 1 by simp)
  generalize (V.alloc (.cells #[.int .i64 (s - b), .int .i64 (s - a)] 23)) = W2 at *
  generalize V.heap.size = n2 at *
  have c0 := bx0.c0
  have d0 := bx0.c1
  have l0 := bx0.lt
  have c1 := bx1.c0
  have d1 := bx1.c1
  have l1 := bx1.lt
  have c2 := bx2.c0
  have d2 := bx2.c1
  have l2 := bx2.lt
  refine (mirror_any _ c d s).mono ?_
  rintro e V ⟨rfl, hb⟩
  rw [E2.out.1, E2.out.2.1, E2.out.2.2.1]
  clear c0 d0 l0 c1 d1 l1 c2 d2 l2
  have bx0 := bx0.below hb
  have bx1 := bx1.below hb
  have bx2 := bx2.below hb
  have K := K.trans (hb.mono K.size)
  clear hb
  have bx0 := bx0.alloc (.cells #[.int .i64 (s - d), .int .i64 (s - c)] 23)
  have bx1 := bx1.alloc (.cells #[.int .i64 (s - d), .int .i64 (s - c)] 23)
  have bx2 := bx2.alloc (.cells #[.int .i64 (s - d), .int .i64 (s - c)] 23)
  have bx3 := Bx.new V (s - d) (s - c) 23
  have K := K.alloc K.size (.cells #[.int .i64 (s - d), .int .i64 (s - c)] 23)
  have c0 := bx0.c0
  have d0 := bx0.c1
  have l0 := bx0.lt
  have c1 := bx1.c0
  have d1 := bx1.c1
  have l1 := bx1.lt
  have c2 := bx2.c0
  have d2 := bx2.c1
  have l2 := bx2.lt
  have c3 := bx3.c0
  have d3 := bx3.c1
  have l3 := bx3.lt
  go_wp2_with fail
  clear c0 d0 l0 c1 d1 l1 c2 d2 l2 c3 d3 l3
  have SZ3 := Lib.hid (show (V.alloc (.cells #[.int .i64 (s - d), .int .i64 (s - c)] 23)).heap.size = V.heap.size + 1 by simp)
  generalize (V.alloc (.cells #[.int .i64 (s - d), .int .i64 (s - c)] 23)) = W3 at *
  generalize V.heap.size = n3 at *
  have c0 := bx0.c0
  have d0 := bx0.c1
  have l0 := bx0.lt
  have c1 := bx1.c0
  have d1 := bx1.c1
  have l1 := bx1.lt
  have c2 := bx2.c0
  have d2 := bx2.c1
  have l2 := bx2.lt
  have c3 := bx3.c0
  have d3 := bx3.c1
  have l3 := bx3.lt
  refine (relate_any _ a b c d).mono ?_
  rintro e V ⟨rfl, hb⟩
  rw [R.out.1, R.out.2.1]
  clear c0 d0 l0 c1 d1 l1 c2 d2 l2 c3 d3 l3
  have bx0 := bx0.below hb
  have bx1 := bx1.below hb
  have bx2 := bx2.below hb
  have bx3 := bx3.below hb
  have K := K.trans (hb.mono K.size)
  clear hb
  generalize V = W4 at *
  have c0 := bx0.c0
  have d0 := bx0.c1
  have l0 := bx0.lt
  have c1 := bx1.c0
  have d1 := bx1.c1
  have l1 := bx1.lt
  have c2 := bx2.c0
  have d2 := bx2.c1
  have l2 := bx2.lt
  have c3 := bx3.c0
  have d3 := bx3.c1
  have l3 := bx3.lt
  go_wp2_with fail
  refine (relate_any _ (s - b) (s - a) (s - d) (s - c)).mono ?_
  rintro e V ⟨rfl, hb⟩
  rw [R.out.2.2.1, R.out.2.2.2]
  clear c0 d0 l0 c1 d1 l1 c2 d2 l2 c3 d3 l3
  have bx0 := bx0.below hb
  have bx1 := bx1.below hb
  have bx2 := bx2.below hb
  have bx3 := bx3.below hb
  have K := K.trans (hb.mono K.size)
  clear hb
  generalize V = W5 at *
  have c0 := bx0.c0
  have d0 := bx0.c1
  have l0 := bx0.lt
  have c1 := bx1.c0
  have d1 := bx1.c1
  have l1 := bx1.lt
  have c2 := bx2.c0
  have d2 := bx2.c1
  have l2 := bx2.lt
  have c3 := bx3.c0
  have d3 := bx3.c1
  have l3 := bx3.lt
  go_wp2_with fail
  have K := K.alloc K.size (.cells #[.int .i64 0, .int .i64 13, .int .i64 12, .int .i64 11, .int .i64 8, .int .i64 5, .int .i64 10, .int .i64 7, .int .i64 4, .int .i64 9, .int .i64 6, .int .i64 3, .int .i64 2, .int .i64 1] 36)
  refine (live_any _).mono ?_
  rintro e V ⟨rfl, hb⟩
  have cw : V.cell? ⟨W5.heap.size, 8, none⟩ = some (.int .i64 4) := by rw [hb.cell (p := ⟨W5.heap.size, 8, none⟩) (by simp)]; simp
  have K := K.trans (hb.mono K.size)
  clear hb
  clear c0 d0 l0 c1 d1 l1 c2 d2 l2 c3 d3 l3
  go_wp2_with fail
  go_ret
  exact ⟨rfl, K⟩

set_option maxHeartbeats 1000000 in
theorem mirrors_9 (w : World) (a b c d s : Int) (q1 : miE a b s = 0) (q2 : miE c d s = 0) (_h0 : c < b) (_h1 : a < d) (_h2 : c < a) (_h3 : b < d) : Calls Try.prog 5 #[sp a b, sp c d, .int .i64 s] w (PV (.bool true) w) := by
  obtain ⟨m1, m2, m3, m4⟩ := miE_zero q1
  obtain ⟨m5, _, _, m6⟩ := miE_zero q2
  have k1 := may_iff.1 m1
  have k2 := may_iff.1 m5
  have r1 : relI a b c d = 9 := rel9 (by omega) (by omega) (by omega) (by omega) (by omega) (by omega)
  have r2 : relI (s - b) (s - a) (s - d) (s - c) = 9 := rel9 (by omega) (by omega) (by omega) (by omega) (by omega) (by omega)
  have R : Hid (rlN a b c d = 9 ∧ rlE a b c d = 0 ∧ rlN (s - b) (s - a) (s - d) (s - c) = 9 ∧ rlE (s - b) (s - a) (s - d) (s - c) = 0) := ⟨by rw [(rl_yes m1 m5).1]; exact r1, (rl_yes m1 m5).2, by rw [(rl_yes m4 m6).1]; exact r2, (rl_yes m4 m6).2⟩
  have E1 := Lib.hid ((mirror_back q1))
  have E2 := Lib.hid ((mirror_back q2))
  clear q1 q2 m1 m4 m5 m6 r1 r2 k1 k2 m2 m3 _h0 _h1 _h2 _h3
  go_enter Try.func5, Try.ntmps5
  go_wp2_with fail
  have K : Below w.heap.size w ((w.alloc (.cells #[.int .i64 a, .int .i64 b] 23)).alloc (.cells #[.int .i64 c, .int .i64 d] 23)) := (((Below.refl _ _).alloc (Nat.le_refl _) _).alloc (by first | omega | (simp; done) | (simp; omega)) _)
  have bx0 : Bx ((w.alloc (.cells #[.int .i64 a, .int .i64 b] 23)).alloc (.cells #[.int .i64 c, .int .i64 d] 23)) (w.heap.size) a b := ((Bx.new' (W := w) (n := w.heap.size) (by simp) a b 23).alloc _)
  have bx1 : Bx ((w.alloc (.cells #[.int .i64 a, .int .i64 b] 23)).alloc (.cells #[.int .i64 c, .int .i64 d] 23)) (w.heap.size + 1) c d := (Bx.new' (W := (w.alloc (.cells #[.int .i64 a, .int .i64 b] 23))) (n := w.heap.size + 1) (by simp) c d 23)
  generalize ((w.alloc (.cells #[.int .i64 a, .int .i64 b] 23)).alloc (.cells #[.int .i64 c, .int .i64 d] 23)) = W1 at *
  have c0 := bx0.c0
  have d0 := bx0.c1
  have l0 := bx0.lt
  have c1 := bx1.c0
  have d1 := bx1.c1
  have l1 := bx1.lt
  refine (mirror_any _ a b s).mono ?_
  rintro e V ⟨rfl, hb⟩
  rw [E1.out.1, E1.out.2.1, E1.out.2.2.1]
  clear c0 d0 l0 c1 d1 l1
  have bx0 := bx0.below hb
  have bx1 := bx1.below hb
  have K := K.trans (hb.mono K.size)
  clear hb
  have bx0 := bx0.alloc (.cells #[.int .i64 (s - b), .int .i64 (s - a)] 23)
  have bx1 := bx1.alloc (.cells #[.int .i64 (s - b), .int .i64 (s - a)] 23)
  have bx2 := Bx.new V (s - b) (s - a) 23
  have K := K.alloc K.size (.cells #[.int .i64 (s - b), .int .i64 (s - a)] 23)
  have c0 := bx0.c0
  have d0 := bx0.c1
  have l0 := bx0.lt
  have c1 := bx1.c0
  have d1 := bx1.c1
  have l1 := bx1.lt
  have c2 := bx2.c0
  have d2 := bx2.c1
  have l2 := bx2.lt
  go_wp2_with fail
  clear c0 d0 l0 c1 d1 l1 c2 d2 l2
  have SZ2 := Lib.hid (show (V.alloc (.cells #[.int .i64 (s - b), .int .i64 (s - a)] 23)).heap.size = V.heap.size + 1 by simp)
  generalize (V.alloc (.cells #[.int .i64 (s - b), .int .i64 (s - a)] 23)) = W2 at *
  generalize V.heap.size = n2 at *
  have c0 := bx0.c0
  have d0 := bx0.c1
  have l0 := bx0.lt
  have c1 := bx1.c0
  have d1 := bx1.c1
  have l1 := bx1.lt
  have c2 := bx2.c0
  have d2 := bx2.c1
  have l2 := bx2.lt
  refine (mirror_any _ c d s).mono ?_
  rintro e V ⟨rfl, hb⟩
  rw [E2.out.1, E2.out.2.1, E2.out.2.2.1]
  clear c0 d0 l0 c1 d1 l1 c2 d2 l2
  have bx0 := bx0.below hb
  have bx1 := bx1.below hb
  have bx2 := bx2.below hb
  have K := K.trans (hb.mono K.size)
  clear hb
  have bx0 := bx0.alloc (.cells #[.int .i64 (s - d), .int .i64 (s - c)] 23)
  have bx1 := bx1.alloc (.cells #[.int .i64 (s - d), .int .i64 (s - c)] 23)
  have bx2 := bx2.alloc (.cells #[.int .i64 (s - d), .int .i64 (s - c)] 23)
  have bx3 := Bx.new V (s - d) (s - c) 23
  have K := K.alloc K.size (.cells #[.int .i64 (s - d), .int .i64 (s - c)] 23)
  have c0 := bx0.c0
  have d0 := bx0.c1
  have l0 := bx0.lt
  have c1 := bx1.c0
  have d1 := bx1.c1
  have l1 := bx1.lt
  have c2 := bx2.c0
  have d2 := bx2.c1
  have l2 := bx2.lt
  have c3 := bx3.c0
  have d3 := bx3.c1
  have l3 := bx3.lt
  go_wp2_with fail
  clear c0 d0 l0 c1 d1 l1 c2 d2 l2 c3 d3 l3
  have SZ3 := Lib.hid (show (V.alloc (.cells #[.int .i64 (s - d), .int .i64 (s - c)] 23)).heap.size = V.heap.size + 1 by simp)
  generalize (V.alloc (.cells #[.int .i64 (s - d), .int .i64 (s - c)] 23)) = W3 at *
  generalize V.heap.size = n3 at *
  have c0 := bx0.c0
  have d0 := bx0.c1
  have l0 := bx0.lt
  have c1 := bx1.c0
  have d1 := bx1.c1
  have l1 := bx1.lt
  have c2 := bx2.c0
  have d2 := bx2.c1
  have l2 := bx2.lt
  have c3 := bx3.c0
  have d3 := bx3.c1
  have l3 := bx3.lt
  refine (relate_any _ a b c d).mono ?_
  rintro e V ⟨rfl, hb⟩
  rw [R.out.1, R.out.2.1]
  clear c0 d0 l0 c1 d1 l1 c2 d2 l2 c3 d3 l3
  have bx0 := bx0.below hb
  have bx1 := bx1.below hb
  have bx2 := bx2.below hb
  have bx3 := bx3.below hb
  have K := K.trans (hb.mono K.size)
  clear hb
  generalize V = W4 at *
  have c0 := bx0.c0
  have d0 := bx0.c1
  have l0 := bx0.lt
  have c1 := bx1.c0
  have d1 := bx1.c1
  have l1 := bx1.lt
  have c2 := bx2.c0
  have d2 := bx2.c1
  have l2 := bx2.lt
  have c3 := bx3.c0
  have d3 := bx3.c1
  have l3 := bx3.lt
  go_wp2_with fail
  refine (relate_any _ (s - b) (s - a) (s - d) (s - c)).mono ?_
  rintro e V ⟨rfl, hb⟩
  rw [R.out.2.2.1, R.out.2.2.2]
  clear c0 d0 l0 c1 d1 l1 c2 d2 l2 c3 d3 l3
  have bx0 := bx0.below hb
  have bx1 := bx1.below hb
  have bx2 := bx2.below hb
  have bx3 := bx3.below hb
  have K := K.trans (hb.mono K.size)
  clear hb
  generalize V = W5 at *
  have c0 := bx0.c0
  have d0 := bx0.c1
  have l0 := bx0.lt
  have c1 := bx1.c0
  have d1 := bx1.c1
  have l1 := bx1.lt
  have c2 := bx2.c0
  have d2 := bx2.c1
  have l2 := bx2.lt
  have c3 := bx3.c0
  have d3 := bx3.c1
  have l3 := bx3.lt
  go_wp2_with fail
  have K := K.alloc K.size (.cells #[.int .i64 0, .int .i64 13, .int .i64 12, .int .i64 11, .int .i64 8, .int .i64 5, .int .i64 10, .int .i64 7, .int .i64 4, .int .i64 9, .int .i64 6, .int .i64 3, .int .i64 2, .int .i64 1] 36)
  refine (live_any _).mono ?_
  rintro e V ⟨rfl, hb⟩
  have cw : V.cell? ⟨W5.heap.size, 9, none⟩ = some (.int .i64 9) := by rw [hb.cell (p := ⟨W5.heap.size, 9, none⟩) (by simp)]; simp
  have K := K.trans (hb.mono K.size)
  clear hb
  clear c0 d0 l0 c1 d1 l1 c2 d2 l2 c3 d3 l3
  go_wp2_with fail
  go_ret
  exact ⟨rfl, K⟩

set_option maxHeartbeats 1000000 in
theorem mirrors_10 (w : World) (a b c d s : Int) (q1 : miE a b s = 0) (q2 : miE c d s = 0) (_h0 : c < b) (_h1 : a < d) (_h2 : c < a) (_h3 : b = d) : Calls Try.prog 5 #[sp a b, sp c d, .int .i64 s] w (PV (.bool true) w) := by
  obtain ⟨m1, m2, m3, m4⟩ := miE_zero q1
  obtain ⟨m5, _, _, m6⟩ := miE_zero q2
  have k1 := may_iff.1 m1
  have k2 := may_iff.1 m5
  have r1 : relI a b c d = 10 := rel10 (by omega) (by omega) (by omega) (by omega) (by omega) (by omega)
  have r2 : relI (s - b) (s - a) (s - d) (s - c) = 6 := rel6 (by omega) (by omega) (by omega) (by omega) (by omega) (by omega)
  have R : Hid (rlN a b c d = 10 ∧ rlE a b c d = 0 ∧ rlN (s - b) (s - a) (s - d) (s - c) = 6 ∧ rlE (s - b) (s - a) (s - d) (s - c) = 0) := ⟨by rw [(rl_yes m1 m5).1]; exact r1, (rl_yes m1 m5).2, by rw [(rl_yes m4 m6).1]; exact r2, (rl_yes m4 m6).2⟩
  have E1 := Lib.hid ((mirror_back q1))
  have E2 := Lib.hid ((mirror_back q2))
  clear q1 q2 m1 m4 m5 m6 r1 r2 k1 k2 m2 m3 _h0 _h1 _h2 _h3
  go_enter Try.func5, Try.ntmps5
  go_wp2_with fail
  have K : Below w.heap.size w ((w.alloc (.cells #[.int .i64 a, .int .i64 b] 23)).alloc (.cells #[.int .i64 c, .int .i64 d] 23)) := (((Below.refl _ _).alloc (Nat.le_refl _) _).alloc (by first | omega | (simp; done) | (simp; omega)) _)
  have bx0 : Bx ((w.alloc (.cells #[.int .i64 a, .int .i64 b] 23)).alloc (.cells #[.int .i64 c, .int .i64 d] 23)) (w.heap.size) a b := ((Bx.new' (W := w) (n := w.heap.size) (by simp) a b 23).alloc _)
  have bx1 : Bx ((w.alloc (.cells #[.int .i64 a, .int .i64 b] 23)).alloc (.cells #[.int .i64 c, .int .i64 d] 23)) (w.heap.size + 1) c d := (Bx.new' (W := (w.alloc (.cells #[.int .i64 a, .int .i64 b] 23))) (n := w.heap.size + 1) (by simp) c d 23)
  generalize ((w.alloc (.cells #[.int .i64 a, .int .i64 b] 23)).alloc (.cells #[.int .i64 c, .int .i64 d] 23)) = W1 at *
  have c0 := bx0.c0
  have d0 := bx0.c1
  have l0 := bx0.lt
  have c1 := bx1.c0
  have d1 := bx1.c1
  have l1 := bx1.lt
  refine (mirror_any _ a b s).mono ?_
  rintro e V ⟨rfl, hb⟩
  rw [E1.out.1, E1.out.2.1, E1.out.2.2.1]
  clear c0 d0 l0 c1 d1 l1
  have bx0 := bx0.below hb
  have bx1 := bx1.below hb
  have K := K.trans (hb.mono K.size)
  clear hb
  have bx0 := bx0.alloc (.cells #[.int .i64 (s - b), .int .i64 (s - a)] 23)
  have bx1 := bx1.alloc (.cells #[.int .i64 (s - b), .int .i64 (s - a)] 23)
  have bx2 := Bx.new V (s - b) (s - a) 23
  have K := K.alloc K.size (.cells #[.int .i64 (s - b), .int .i64 (s - a)] 23)
  have c0 := bx0.c0
  have d0 := bx0.c1
  have l0 := bx0.lt
  have c1 := bx1.c0
  have d1 := bx1.c1
  have l1 := bx1.lt
  have c2 := bx2.c0
  have d2 := bx2.c1
  have l2 := bx2.lt
  go_wp2_with fail
  clear c0 d0 l0 c1 d1 l1 c2 d2 l2
  have SZ2 := Lib.hid (show (V.alloc (.cells #[.int .i64 (s - b), .int .i64 (s - a)] 23)).heap.size = V.heap.size + 1 by simp)
  generalize (V.alloc (.cells #[.int .i64 (s - b), .int .i64 (s - a)] 23)) = W2 at *
  generalize V.heap.size = n2 at *
  have c0 := bx0.c0
  have d0 := bx0.c1
  have l0 := bx0.lt
  have c1 := bx1.c0
  have d1 := bx1.c1
  have l1 := bx1.lt
  have c2 := bx2.c0
  have d2 := bx2.c1
  have l2 := bx2.lt
  refine (mirror_any _ c d s).mono ?_
  rintro e V ⟨rfl, hb⟩
  rw [E2.out.1, E2.out.2.1, E2.out.2.2.1]
  clear c0 d0 l0 c1 d1 l1 c2 d2 l2
  have bx0 := bx0.below hb
  have bx1 := bx1.below hb
  have bx2 := bx2.below hb
  have K := K.trans (hb.mono K.size)
  clear hb
  have bx0 := bx0.alloc (.cells #[.int .i64 (s - d), .int .i64 (s - c)] 23)
  have bx1 := bx1.alloc (.cells #[.int .i64 (s - d), .int .i64 (s - c)] 23)
  have bx2 := bx2.alloc (.cells #[.int .i64 (s - d), .int .i64 (s - c)] 23)
  have bx3 := Bx.new V (s - d) (s - c) 23
  have K := K.alloc K.size (.cells #[.int .i64 (s - d), .int .i64 (s - c)] 23)
  have c0 := bx0.c0
  have d0 := bx0.c1
  have l0 := bx0.lt
  have c1 := bx1.c0
  have d1 := bx1.c1
  have l1 := bx1.lt
  have c2 := bx2.c0
  have d2 := bx2.c1
  have l2 := bx2.lt
  have c3 := bx3.c0
  have d3 := bx3.c1
  have l3 := bx3.lt
  go_wp2_with fail
  clear c0 d0 l0 c1 d1 l1 c2 d2 l2 c3 d3 l3
  have SZ3 := Lib.hid (show (V.alloc (.cells #[.int .i64 (s - d), .int .i64 (s - c)] 23)).heap.size = V.heap.size + 1 by simp)
  generalize (V.alloc (.cells #[.int .i64 (s - d), .int .i64 (s - c)] 23)) = W3 at *
  generalize V.heap.size = n3 at *
  have c0 := bx0.c0
  have d0 := bx0.c1
  have l0 := bx0.lt
  have c1 := bx1.c0
  have d1 := bx1.c1
  have l1 := bx1.lt
  have c2 := bx2.c0
  have d2 := bx2.c1
  have l2 := bx2.lt
  have c3 := bx3.c0
  have d3 := bx3.c1
  have l3 := bx3.lt
  refine (relate_any _ a b c d).mono ?_
  rintro e V ⟨rfl, hb⟩
  rw [R.out.1, R.out.2.1]
  clear c0 d0 l0 c1 d1 l1 c2 d2 l2 c3 d3 l3
  have bx0 := bx0.below hb
  have bx1 := bx1.below hb
  have bx2 := bx2.below hb
  have bx3 := bx3.below hb
  have K := K.trans (hb.mono K.size)
  clear hb
  generalize V = W4 at *
  have c0 := bx0.c0
  have d0 := bx0.c1
  have l0 := bx0.lt
  have c1 := bx1.c0
  have d1 := bx1.c1
  have l1 := bx1.lt
  have c2 := bx2.c0
  have d2 := bx2.c1
  have l2 := bx2.lt
  have c3 := bx3.c0
  have d3 := bx3.c1
  have l3 := bx3.lt
  go_wp2_with fail
  refine (relate_any _ (s - b) (s - a) (s - d) (s - c)).mono ?_
  rintro e V ⟨rfl, hb⟩
  rw [R.out.2.2.1, R.out.2.2.2]
  clear c0 d0 l0 c1 d1 l1 c2 d2 l2 c3 d3 l3
  have bx0 := bx0.below hb
  have bx1 := bx1.below hb
  have bx2 := bx2.below hb
  have bx3 := bx3.below hb
  have K := K.trans (hb.mono K.size)
  clear hb
  generalize V = W5 at *
  have c0 := bx0.c0
  have d0 := bx0.c1
  have l0 := bx0.lt
  have c1 := bx1.c0
  have d1 := bx1.c1
  have l1 := bx1.lt
  have c2 := bx2.c0
  have d2 := bx2.c1
  have l2 := bx2.lt
  have c3 := bx3.c0
  have d3 := bx3.c1
  have l3 := bx3.lt
  go_wp2_with fail
  have K := K.alloc K.size (.cells #[.int .i64 0, .int .i64 13, .int .i64 12, .int .i64 11, .int .i64 8, .int .i64 5, .int .i64 10, .int .i64 7, .int .i64 4, .int .i64 9, .int .i64 6, .int .i64 3, .int .i64 2, .int .i64 1] 36)
  refine (live_any _).mono ?_
  rintro e V ⟨rfl, hb⟩
  have cw : V.cell? ⟨W5.heap.size, 10, none⟩ = some (.int .i64 6) := by rw [hb.cell (p := ⟨W5.heap.size, 10, none⟩) (by simp)]; simp
  have K := K.trans (hb.mono K.size)
  clear hb
  clear c0 d0 l0 c1 d1 l1 c2 d2 l2 c3 d3 l3
  go_wp2_with fail
  go_ret
  exact ⟨rfl, K⟩

set_option maxHeartbeats 1000000 in
theorem mirrors_11 (w : World) (a b c d s : Int) (q1 : miE a b s = 0) (q2 : miE c d s = 0) (_h0 : c < b) (_h1 : a < d) (_h2 : c < a) (_h3 : d < b) : Calls Try.prog 5 #[sp a b, sp c d, .int .i64 s] w (PV (.bool true) w) := by
  obtain ⟨m1, m2, m3, m4⟩ := miE_zero q1
  obtain ⟨m5, _, _, m6⟩ := miE_zero q2
  have k1 := may_iff.1 m1
  have k2 := may_iff.1 m5
  have r1 : relI a b c d = 11 := rel11 (by omega) (by omega) (by omega) (by omega) (by omega) (by omega)
  have r2 : relI (s - b) (s - a) (s - d) (s - c) = 3 := rel3 (by omega) (by omega) (by omega) (by omega) (by omega) (by omega)
  have R : Hid (rlN a b c d = 11 ∧ rlE a b c d = 0 ∧ rlN (s - b) (s - a) (s - d) (s - c) = 3 ∧ rlE (s - b) (s - a) (s - d) (s - c) = 0) := ⟨by rw [(rl_yes m1 m5).1]; exact r1, (rl_yes m1 m5).2, by rw [(rl_yes m4 m6).1]; exact r2, (rl_yes m4 m6).2⟩
  have E1 := Lib.hid ((mirror_back q1))
  have E2 := Lib.hid ((mirror_back q2))
  clear q1 q2 m1 m4 m5 m6 r1 r2 k1 k2 m2 m3 _h0 _h1 _h2 _h3
  go_enter Try.func5, Try.ntmps5
  go_wp2_with fail
  have K : Below w.heap.size w ((w.alloc (.cells #[.int .i64 a, .int .i64 b] 23)).alloc (.cells #[.int .i64 c, .int .i64 d] 23)) := (((Below.refl _ _).alloc (Nat.le_refl _) _).alloc (by first | omega | (simp; done) | (simp; omega)) _)
  have bx0 : Bx ((w.alloc (.cells #[.int .i64 a, .int .i64 b] 23)).alloc (.cells #[.int .i64 c, .int .i64 d] 23)) (w.heap.size) a b := ((Bx.new' (W := w) (n := w.heap.size) (by simp) a b 23).alloc _)
  have bx1 : Bx ((w.alloc (.cells #[.int .i64 a, .int .i64 b] 23)).alloc (.cells #[.int .i64 c, .int .i64 d] 23)) (w.heap.size + 1) c d := (Bx.new' (W := (w.alloc (.cells #[.int .i64 a, .int .i64 b] 23))) (n := w.heap.size + 1) (by simp) c d 23)
  generalize ((w.alloc (.cells #[.int .i64 a, .int .i64 b] 23)).alloc (.cells #[.int .i64 c, .int .i64 d] 23)) = W1 at *
  have c0 := bx0.c0
  have d0 := bx0.c1
  have l0 := bx0.lt
  have c1 := bx1.c0
  have d1 := bx1.c1
  have l1 := bx1.lt
  refine (mirror_any _ a b s).mono ?_
  rintro e V ⟨rfl, hb⟩
  rw [E1.out.1, E1.out.2.1, E1.out.2.2.1]
  clear c0 d0 l0 c1 d1 l1
  have bx0 := bx0.below hb
  have bx1 := bx1.below hb
  have K := K.trans (hb.mono K.size)
  clear hb
  have bx0 := bx0.alloc (.cells #[.int .i64 (s - b), .int .i64 (s - a)] 23)
  have bx1 := bx1.alloc (.cells #[.int .i64 (s - b), .int .i64 (s - a)] 23)
  have bx2 := Bx.new V (s - b) (s - a) 23
  have K := K.alloc K.size (.cells #[.int .i64 (s - b), .int .i64 (s - a)] 23)
  have c0 := bx0.c0
  have d0 := bx0.c1
  have l0 := bx0.lt
  have c1 := bx1.c0
  have d1 := bx1.c1
  have l1 := bx1.lt
  have c2 := bx2.c0
  have d2 := bx2.c1
  have l2 := bx2.lt
  go_wp2_with fail
  clear c0 d0 l0 c1 d1 l1 c2 d2 l2
  have SZ2 := Lib.hid (show (V.alloc (.cells #[.int .i64 (s - b), .int .i64 (s - a)] 23)).heap.size = V.heap.size + 1 by simp)
  generalize (V.alloc (.cells #[.int .i64 (s - b), .int .i64 (s - a)] 23)) = W2 at *
  generalize V.heap.size = n2 at *
  have c0 := bx0.c0
  have d0 := bx0.c1
  have l0 := bx0.lt
  have c1 := bx1.c0
  have d1 := bx1.c1
  have l1 := bx1.lt
  have c2 := bx2.c0
  have d2 := bx2.c1
  have l2 := bx2.lt
  refine (mirror_any _ c d s).mono ?_
  rintro e V ⟨rfl, hb⟩
  rw [E2.out.1, E2.out.2.1, E2.out.2.2.1]
  clear c0 d0 l0 c1 d1 l1 c2 d2 l2
  have bx0 := bx0.below hb
  have bx1 := bx1.below hb
  have bx2 := bx2.below hb
  have K := K.trans (hb.mono K.size)
  clear hb
  have bx0 := bx0.alloc (.cells #[.int .i64 (s - d), .int .i64 (s - c)] 23)
  have bx1 := bx1.alloc (.cells #[.int .i64 (s - d), .int .i64 (s - c)] 23)
  have bx2 := bx2.alloc (.cells #[.int .i64 (s - d), .int .i64 (s - c)] 23)
  have bx3 := Bx.new V (s - d) (s - c) 23
  have K := K.alloc K.size (.cells #[.int .i64 (s - d), .int .i64 (s - c)] 23)
  have c0 := bx0.c0
  have d0 := bx0.c1
  have l0 := bx0.lt
  have c1 := bx1.c0
  have d1 := bx1.c1
  have l1 := bx1.lt
  have c2 := bx2.c0
  have d2 := bx2.c1
  have l2 := bx2.lt
  have c3 := bx3.c0
  have d3 := bx3.c1
  have l3 := bx3.lt
  go_wp2_with fail
  clear c0 d0 l0 c1 d1 l1 c2 d2 l2 c3 d3 l3
  have SZ3 := Lib.hid (show (V.alloc (.cells #[.int .i64 (s - d), .int .i64 (s - c)] 23)).heap.size = V.heap.size + 1 by simp)
  generalize (V.alloc (.cells #[.int .i64 (s - d), .int .i64 (s - c)] 23)) = W3 at *
  generalize V.heap.size = n3 at *
  have c0 := bx0.c0
  have d0 := bx0.c1
  have l0 := bx0.lt
  have c1 := bx1.c0
  have d1 := bx1.c1
  have l1 := bx1.lt
  have c2 := bx2.c0
  have d2 := bx2.c1
  have l2 := bx2.lt
  have c3 := bx3.c0
  have d3 := bx3.c1
  have l3 := bx3.lt
  refine (relate_any _ a b c d).mono ?_
  rintro e V ⟨rfl, hb⟩
  rw [R.out.1, R.out.2.1]
  clear c0 d0 l0 c1 d1 l1 c2 d2 l2 c3 d3 l3
  have bx0 := bx0.below hb
  have bx1 := bx1.below hb
  have bx2 := bx2.below hb
  have bx3 := bx3.below hb
  have K := K.trans (hb.mono K.size)
  clear hb
  generalize V = W4 at *
  have c0 := bx0.c0
  have d0 := bx0.c1
  have l0 := bx0.lt
  have c1 := bx1.c0
  have d1 := bx1.c1
  have l1 := bx1.lt
  have c2 := bx2.c0
  have d2 := bx2.c1
  have l2 := bx2.lt
  have c3 := bx3.c0
  have d3 := bx3.c1
  have l3 := bx3.lt
  go_wp2_with fail
  refine (relate_any _ (s - b) (s - a) (s - d) (s - c)).mono ?_
  rintro e V ⟨rfl, hb⟩
  rw [R.out.2.2.1, R.out.2.2.2]
  clear c0 d0 l0 c1 d1 l1 c2 d2 l2 c3 d3 l3
  have bx0 := bx0.below hb
  have bx1 := bx1.below hb
  have bx2 := bx2.below hb
  have bx3 := bx3.below hb
  have K := K.trans (hb.mono K.size)
  clear hb
  generalize V = W5 at *
  have c0 := bx0.c0
  have d0 := bx0.c1
  have l0 := bx0.lt
  have c1 := bx1.c0
  have d1 := bx1.c1
  have l1 := bx1.lt
  have c2 := bx2.c0
  have d2 := bx2.c1
  have l2 := bx2.lt
  have c3 := bx3.c0
  have d3 := bx3.c1
  have l3 := bx3.lt
  go_wp2_with fail
  have K := K.alloc K.size (.cells #[.int .i64 0, .int .i64 13, .int .i64 12, .int .i64 11, .int .i64 8, .int .i64 5, .int .i64 10, .int .i64 7, .int .i64 4, .int .i64 9, .int .i64 6, .int .i64 3, .int .i64 2, .int .i64 1] 36)
  refine (live_any _).mono ?_
  rintro e V ⟨rfl, hb⟩
  have cw : V.cell? ⟨W5.heap.size, 11, none⟩ = some (.int .i64 3) := by rw [hb.cell (p := ⟨W5.heap.size, 11, none⟩) (by simp)]; simp
  have K := K.trans (hb.mono K.size)
  clear hb
  clear c0 d0 l0 c1 d1 l1 c2 d2 l2 c3 d3 l3
  go_wp2_with fail
  go_ret
  exact ⟨rfl, K⟩

theorem mirrors_law (w : World) (a b c d s : Int) : Calls Try.prog 5 #[sp a b, sp c d, .int .i64 s] w (PV (.bool true) w) := by
  by_cases q1 : miE a b s = 0
  · by_cases q2 : miE c d s = 0
    · have k1 := may_iff.1 (miE_zero q1).1
      have k2 := may_iff.1 (miE_zero q2).1
      rcases rel_cases a b c d (by omega) (by omega) with ⟨h0, _, _⟩ | ⟨h0, _, _⟩ | ⟨h0, _, _⟩ | ⟨h0, _, _⟩ | ⟨h0, h1, h2, h3, _, _⟩ | ⟨h0, h1, h2, h3, _, _⟩ | ⟨h0, h1, h2, h3, _, _⟩ | ⟨h0, h1, h2, h3, _, _⟩ | ⟨h0, h1, h2, h3, _, _⟩ | ⟨h0, h1, h2, h3, _, _⟩ | ⟨h0, h1, h2, h3, _, _⟩ | ⟨h0, h1, h2, h3, _, _⟩ | ⟨h0, h1, h2, h3, _, _⟩
      · exact mirrors_1 w a b c d s q1 q2 h0
      · exact mirrors_2 w a b c d s q1 q2 h0
      · exact mirrors_12 w a b c d s q1 q2 h0
      · exact mirrors_13 w a b c d s q1 q2 h0
      · exact mirrors_3 w a b c d s q1 q2 h0 h1 h2 h3
      · exact mirrors_4 w a b c d s q1 q2 h0 h1 h2 h3
      · exact mirrors_5 w a b c d s q1 q2 h0 h1 h2 h3
      · exact mirrors_6 w a b c d s q1 q2 h0 h1 h2 h3
      · exact mirrors_7 w a b c d s q1 q2 h0 h1 h2 h3
      · exact mirrors_8 w a b c d s q1 q2 h0 h1 h2 h3
      · exact mirrors_9 w a b c d s q1 q2 h0 h1 h2 h3
      · exact mirrors_10 w a b c d s q1 q2 h0 h1 h2 h3
      · exact mirrors_11 w a b c d s q1 q2 h0 h1 h2 h3
    · exact mirrors_n2 w a b c d s q1 q2
  · exact mirrors_n1 w a b c d s q1

theorem rel_shift (a b c d s : Int) : relI (a + s) (b + s) (c + s) (d + s) = relI a b c d := by
  unfold relI
  have e1 : c + s - (a + s) = c - a := by omega
  have e2 : d + s - (b + s) = d - b := by omega
  rw [e1, e2]
  simp [Int.add_lt_add_iff_right]

set_option maxHeartbeats 1000000 in
theorem shifts_no (w : World) (a b c d s : Int) (h : mayB a b = false ∨ mayB c d = false) : Calls Try.prog 9 #[sp a b, sp c d, .int .i64 s] w (PV (.bool true) w) := by
  have R : Hid (rlN a b c d = 0 ∧ rlE a b c d = 14 ∧ meetB a b c d = false) := by
    rcases h with h | h
    · exact ⟨(rl_no1 h).1, (rl_no1 h).2, (meet_no1 h).1⟩
    · exact ⟨(rl_no2 h).1, (rl_no2 h).2, (meet_no2 h).1⟩
  clear h
  go_enter Try.func9, Try.ntmps9
  go_wp2_with fail
  have K : Below w.heap.size w ((w.alloc (.cells #[.int .i64 a, .int .i64 b] 23)).alloc (.cells #[.int .i64 c, .int .i64 d] 23)) := (((Below.refl _ _).alloc (Nat.le_refl _) _).alloc (by first | omega | (simp; done) | (simp; omega)) _)
  have bx0 : Bx ((w.alloc (.cells #[.int .i64 a, .int .i64 b] 23)).alloc (.cells #[.int .i64 c, .int .i64 d] 23)) (w.heap.size) a b := ((Bx.new' (W := w) (n := w.heap.size) (by simp) a b 23).alloc _)
  have bx1 : Bx ((w.alloc (.cells #[.int .i64 a, .int .i64 b] 23)).alloc (.cells #[.int .i64 c, .int .i64 d] 23)) (w.heap.size + 1) c d := (Bx.new' (W := (w.alloc (.cells #[.int .i64 a, .int .i64 b] 23))) (n := w.heap.size + 1) (by simp) c d 23)
  generalize ((w.alloc (.cells #[.int .i64 a, .int .i64 b] 23)).alloc (.cells #[.int .i64 c, .int .i64 d] 23)) = W1 at *
  have c0 := bx0.c0
  have d0 := bx0.c1
  have l0 := bx0.lt
  have c1 := bx1.c0
  have d1 := bx1.c1
  have l1 := bx1.lt
  refine (relate_any _ a b c d).mono ?_
  rintro e V ⟨rfl, hb⟩
  rw [R.out.1, R.out.2.1]
  clear c0 d0 l0 c1 d1 l1
  have bx0 := bx0.below hb
  have bx1 := bx1.below hb
  have K := K.trans (hb.mono K.size)
  clear hb
  generalize V = W2 at *
  have c0 := bx0.c0
  have d0 := bx0.c1
  have l0 := bx0.lt
  have c1 := bx1.c0
  have d1 := bx1.c1
  have l1 := bx1.lt
  go_wp2_with fail
  refine (meet_any _ a b c d).mono ?_
  rintro e V ⟨rfl, hb⟩
  rw [R.out.2.2]
  clear c0 d0 l0 c1 d1 l1
  have bx0 := bx0.below hb
  have bx1 := bx1.below hb
  have K := K.trans (hb.mono K.size)
  clear hb
  have bx0 := bx0.alloc (.cells #[.int .i64 (mtF a b c d), .int .i64 (mtT a b c d)] 23)
  have bx1 := bx1.alloc (.cells #[.int .i64 (mtF a b c d), .int .i64 (mtT a b c d)] 23)
  have bx2 := Bx.new V (mtF a b c d) (mtT a b c d) 23
  have K := K.alloc K.size (.cells #[.int .i64 (mtF a b c d), .int .i64 (mtT a b c d)] 23)
  have c0 := bx0.c0
  have d0 := bx0.c1
  have l0 := bx0.lt
  have c1 := bx1.c0
  have d1 := bx1.c1
  have l1 := bx1.lt
  have c2 := bx2.c0
  have d2 := bx2.c1
  have l2 := bx2.lt
  go_wp2_with fail
  clear c0 d0 l0 c1 d1 l1 c2 d2 l2
  have SZ2 := Lib.hid (show (V.alloc (.cells #[.int .i64 (mtF a b c d), .int .i64 (mtT a b c d)] 23)).heap.size = V.heap.size + 1 by simp)
  generalize (V.alloc (.cells #[.int .i64 (mtF a b c d), .int .i64 (mtT a b c d)] 23)) = W3 at *
  generalize V.heap.size = n2 at *
  have c0 := bx0.c0
  have d0 := bx0.c1
  have l0 := bx0.lt
  have c1 := bx1.c0
  have d1 := bx1.c1
  have l1 := bx1.lt
  have c2 := bx2.c0
  have d2 := bx2.c1
  have l2 := bx2.lt
  refine (shift_any _ a b s).mono ?_
  rintro e V ⟨rfl, hb⟩
  clear c0 d0 l0 c1 d1 l1 c2 d2 l2
  have bx0 := bx0.below hb
  have bx1 := bx1.below hb
  have bx2 := bx2.below hb
  have K := K.trans (hb.mono K.size)
  clear hb
  have bx0 := bx0.alloc (.cells #[.int .i64 (shF a b s), .int .i64 (shT a b s)] 23)
  have bx1 := bx1.alloc (.cells #[.int .i64 (shF a b s), .int .i64 (shT a b s)] 23)
  have bx2 := bx2.alloc (.cells #[.int .i64 (shF a b s), .int .i64 (shT a b s)] 23)
  have bx3 := Bx.new V (shF a b s) (shT a b s) 23
  have K := K.alloc K.size (.cells #[.int .i64 (shF a b s), .int .i64 (shT a b s)] 23)
  have c0 := bx0.c0
  have d0 := bx0.c1
  have l0 := bx0.lt
  have c1 := bx1.c0
  have d1 := bx1.c1
  have l1 := bx1.lt
  have c2 := bx2.c0
  have d2 := bx2.c1
  have l2 := bx2.lt
  have c3 := bx3.c0
  have d3 := bx3.c1
  have l3 := bx3.lt
  go_wp2_with fail
  clear c0 d0 l0 c1 d1 l1 c2 d2 l2 c3 d3 l3
  have SZ3 := Lib.hid (show (V.alloc (.cells #[.int .i64 (shF a b s), .int .i64 (shT a b s)] 23)).heap.size = V.heap.size + 1 by simp)
  generalize (V.alloc (.cells #[.int .i64 (shF a b s), .int .i64 (shT a b s)] 23)) = W4 at *
  generalize V.heap.size = n3 at *
  have c0 := bx0.c0
  have d0 := bx0.c1
  have l0 := bx0.lt
  have c1 := bx1.c0
  have d1 := bx1.c1
  have l1 := bx1.lt
  have c2 := bx2.c0
  have d2 := bx2.c1
  have l2 := bx2.lt
  have c3 := bx3.c0
  have d3 := bx3.c1
  have l3 := bx3.lt
  refine (shift_any _ c d s).mono ?_
  rintro e V ⟨rfl, hb⟩
  clear c0 d0 l0 c1 d1 l1 c2 d2 l2 c3 d3 l3
  have bx0 := bx0.below hb
  have bx1 := bx1.below hb
  have bx2 := bx2.below hb
  have bx3 := bx3.below hb
  have K := K.trans (hb.mono K.size)
  clear hb
  have bx0 := bx0.alloc (.cells #[.int .i64 (shF c d s), .int .i64 (shT c d s)] 23)
  have bx1 := bx1.alloc (.cells #[.int .i64 (shF c d s), .int .i64 (shT c d s)] 23)
  have bx2 := bx2.alloc (.cells #[.int .i64 (shF c d s), .int .i64 (shT c d s)] 23)
  have bx3 := bx3.alloc (.cells #[.int .i64 (shF c d s), .int .i64 (shT c d s)] 23)
  have bx4 := Bx.new V (shF c d s) (shT c d s) 23
  have K := K.alloc K.size (.cells #[.int .i64 (shF c d s), .int .i64 (shT c d s)] 23)
  have c0 := bx0.c0
  have d0 := bx0.c1
  have l0 := bx0.lt
  have c1 := bx1.c0
  have d1 := bx1.c1
  have l1 := bx1.lt
  have c2 := bx2.c0
  have d2 := bx2.c1
  have l2 := bx2.lt
  have c3 := bx3.c0
  have d3 := bx3.c1
  have l3 := bx3.lt
  have c4 := bx4.c0
  have d4 := bx4.c1
  have l4 := bx4.lt
  go_wp2_with fail
  clear c0 d0 l0 c1 d1 l1 c2 d2 l2 c3 d3 l3 c4 d4 l4
  have SZ4 := Lib.hid (show (V.alloc (.cells #[.int .i64 (shF c d s), .int .i64 (shT c d s)] 23)).heap.size = V.heap.size + 1 by simp)
  generalize (V.alloc (.cells #[.int .i64 (shF c d s), .int .i64 (shT c d s)] 23)) = W5 at *
  generalize V.heap.size = n4 at *
  have c0 := bx0.c0
  have d0 := bx0.c1
  have l0 := bx0.lt
  have c1 := bx1.c0
  have d1 := bx1.c1
  have l1 := bx1.lt
  have c2 := bx2.c0
  have d2 := bx2.c1
  have l2 := bx2.lt
  have c3 := bx3.c0
  have d3 := bx3.c1
  have l3 := bx3.lt
  have c4 := bx4.c0
  have d4 := bx4.c1
  have l4 := bx4.lt
  refine (live_any _).mono ?_
  rintro e V ⟨rfl, hb⟩
  clear c0 d0 l0 c1 d1 l1 c2 d2 l2 c3 d3 l3 c4 d4 l4
  have bx0 := bx0.below hb
  have bx1 := bx1.below hb
  have bx2 := bx2.below hb
  have bx3 := bx3.below hb
  have bx4 := bx4.below hb
  have K := K.trans (hb.mono K.size)
  clear hb
  generalize V = W6 at *
  have c0 := bx0.c0
  have d0 := bx0.c1
  have l0 := bx0.lt
  have c1 := bx1.c0
  have d1 := bx1.c1
  have l1 := bx1.lt
  have c2 := bx2.c0
  have d2 := bx2.c1
  have l2 := bx2.lt
  have c3 := bx3.c0
  have d3 := bx3.c1
  have l3 := bx3.lt
  have c4 := bx4.c0
  have d4 := bx4.c1
  have l4 := bx4.lt
  go_wp2_with fail
  go_ret
  exact ⟨rfl, K⟩

set_option maxHeartbeats 1000000 in
theorem shifts_lo_n1 (w : World) (a b c d s : Int) (h1 : mayB a b = true) (h2 : mayB c d = true) (hN : relI a b c d ≤ 2) (q1 : ¬ shE a b s = 0) : Calls Try.prog 9 #[sp a b, sp c d, .int .i64 s] w (PV (.bool true) w) := by
  have k1 := may_iff.1 h1
  have k2 := may_iff.1 h2
  have hm : meetB a b c d = false := by
    rw [meet_may h1 h2]
    first | rw [may_iff] | rw [may_no]
    rcases rel_cases a b c d (by omega) (by omega) with h | h | h | h | h | h | h | h | h | h | h | h | h <;> omega
  have R : Hid (rlN a b c d = relI a b c d ∧ rlE a b c d = 0 ∧ meetB a b c d = false) := ⟨(rl_yes h1 h2).1, (rl_yes h1 h2).2, hm⟩
  have z1 : (shE a b s == 0) = false := by simpa using q1
  generalize relI a b c d = N at *
  clear h1 h2 hm k1 k2 q1
  have hN1 : ¬ 2 < N := by omega
  have hN2 : decide (2 < N) = false := by simpa using hN1
  go_enter Try.func9, Try.ntmps9
  go_wp2_with fail
  have K : Below w.heap.size w ((w.alloc (.cells #[.int .i64 a, .int .i64 b] 23)).alloc (.cells #[.int .i64 c, .int .i64 d] 23)) := (((Below.refl _ _).alloc (Nat.le_refl _) _).alloc (by first | omega | (simp; done) | (simp; omega)) _)
  have bx0 : Bx ((w.alloc (.cells #[.int .i64 a, .int .i64 b] 23)).alloc (.cells #[.int .i64 c, .int .i64 d] 23)) (w.heap.size) a b := ((Bx.new' (W := w) (n := w.heap.size) (by simp) a b 23).alloc _)
  have bx1 : Bx ((w.alloc (.cells #[.int .i64 a, .int .i64 b] 23)).alloc (.cells #[.int .i64 c, .int .i64 d] 23)) (w.heap.size + 1) c d := (Bx.new' (W := (w.alloc (.cells #[.int .i64 a, .int .i64 b] 23))) (n := w.heap.size + 1) (by simp) c d 23)
  generalize ((w.alloc (.cells #[.int .i64 a, .int .i64 b] 23)).alloc (.cells #[.int .i64 c, .int .i64 d] 23)) = W1 at *
  have c0 := bx0.c0
  have d0 := bx0.c1
  have l0 := bx0.lt
  have c1 := bx1.c0
  have d1 := bx1.c1
  have l1 := bx1.lt
  refine (relate_any _ a b c d).mono ?_
  rintro e V ⟨rfl, hb⟩
  rw [R.out.1, R.out.2.1]
  clear c0 d0 l0 c1 d1 l1
  have bx0 := bx0.below hb
  have bx1 := bx1.below hb
  have K := K.trans (hb.mono K.size)
  clear hb
  generalize V = W2 at *
  have c0 := bx0.c0
  have d0 := bx0.c1
  have l0 := bx0.lt
  have c1 := bx1.c0
  have d1 := bx1.c1
  have l1 := bx1.lt
  go_wp2_with fail
  refine (meet_any _ a b c d).mono ?_
  rintro e V ⟨rfl, hb⟩
  rw [R.out.2.2]
  clear c0 d0 l0 c1 d1 l1
  have bx0 := bx0.below hb
  have bx1 := bx1.below hb
  have K := K.trans (hb.mono K.size)
  clear hb
  have bx0 := bx0.alloc (.cells #[.int .i64 (mtF a b c d), .int .i64 (mtT a b c d)] 23)
  have bx1 := bx1.alloc (.cells #[.int .i64 (mtF a b c d), .int .i64 (mtT a b c d)] 23)
  have bx2 := Bx.new V (mtF a b c d) (mtT a b c d) 23
  have K := K.alloc K.size (.cells #[.int .i64 (mtF a b c d), .int .i64 (mtT a b c d)] 23)
  have c0 := bx0.c0
  have d0 := bx0.c1
  have l0 := bx0.lt
  have c1 := bx1.c0
  have d1 := bx1.c1
  have l1 := bx1.lt
  have c2 := bx2.c0
  have d2 := bx2.c1
  have l2 := bx2.lt
  go_wp2_with fail
  clear c0 d0 l0 c1 d1 l1 c2 d2 l2
  have SZ2 := Lib.hid (show (V.alloc (.cells #[.int .i64 (mtF a b c d), .int .i64 (mtT a b c d)] 23)).heap.size = V.heap.size + 1 by simp)
  generalize (V.alloc (.cells #[.int .i64 (mtF a b c d), .int .i64 (mtT a b c d)] 23)) = W3 at *
  generalize V.heap.size = n2 at *
  have c0 := bx0.c0
  have d0 := bx0.c1
  have l0 := bx0.lt
  have c1 := bx1.c0
  have d1 := bx1.c1
  have l1 := bx1.lt
  have c2 := bx2.c0
  have d2 := bx2.c1
  have l2 := bx2.lt
  refine (shift_any _ a b s).mono ?_
  rintro e V ⟨rfl, hb⟩
  clear c0 d0 l0 c1 d1 l1 c2 d2 l2
  have bx0 := bx0.below hb
  have bx1 := bx1.below hb
  have bx2 := bx2.below hb
  have K := K.trans (hb.mono K.size)
  clear hb
  have bx0 := bx0.alloc (.cells #[.int .i64 (shF a b s), .int .i64 (shT a b s)] 23)
  have bx1 := bx1.alloc (.cells #[.int .i64 (shF a b s), .int .i64 (shT a b s)] 23)
  have bx2 := bx2.alloc (.cells #[.int .i64 (shF a b s), .int .i64 (shT a b s)] 23)
  have bx3 := Bx.new V (shF a b s) (shT a b s) 23
  have K := K.alloc K.size (.cells #[.int .i64 (shF a b s), .int .i64 (shT a b s)] 23)
  have c0 := bx0.c0
  have d0 := bx0.c1
  have l0 := bx0.lt
  have c1 := bx1.c0
  have d1 := bx1.c1
  have l1 := bx1.lt
  have c2 := bx2.c0
  have d2 := bx2.c1
  have l2 := bx2.lt
  have c3 := bx3.c0
  have d3 := bx3.c1
  have l3 := bx3.lt
  go_wp2_with fail
  clear c0 d0 l0 c1 d1 l1 c2 d2 l2 c3 d3 l3
  have SZ3 := Lib.hid (show (V.alloc (.cells #[.int .i64 (shF a b s), .int .i64 (shT a b s)] 23)).heap.size = V.heap.size + 1 by simp)
  generalize (V.alloc (.cells #[.int .i64 (shF a b s), .int .i64 (shT a b s)] 23)) = W4 at *
  generalize V.heap.size = n3 at *
  have c0 := bx0.c0
  have d0 := bx0.c1
  have l0 := bx0.lt
  have c1 := bx1.c0
  have d1 := bx1.c1
  have l1 := bx1.lt
  have c2 := bx2.c0
  have d2 := bx2.c1
  have l2 := bx2.lt
  have c3 := bx3.c0
  have d3 := bx3.c1
  have l3 := bx3.lt
  refine (shift_any _ c d s).mono ?_
  rintro e V ⟨rfl, hb⟩
  clear c0 d0 l0 c1 d1 l1 c2 d2 l2 c3 d3 l3
  have bx0 := bx0.below hb
  have bx1 := bx1.below hb
  have bx2 := bx2.below hb
  have bx3 := bx3.below hb
  have K := K.trans (hb.mono K.size)
  clear hb
  have bx0 := bx0.alloc (.cells #[.int .i64 (shF c d s), .int .i64 (shT c d s)] 23)
  have bx1 := bx1.alloc (.cells #[.int .i64 (shF c d s), .int .i64 (shT c d s)] 23)
  have bx2 := bx2.alloc (.cells #[.int .i64 (shF c d s), .int .i64 (shT c d s)] 23)
  have bx3 := bx3.alloc (.cells #[.int .i64 (shF c d s), .int .i64 (shT c d s)] 23)
  have bx4 := Bx.new V (shF c d s) (shT c d s) 23
  have K := K.alloc K.size (.cells #[.int .i64 (shF c d s), .int .i64 (shT c d s)] 23)
  have c0 := bx0.c0
  have d0 := bx0.c1
  have l0 := bx0.lt
  have c1 := bx1.c0
  have d1 := bx1.c1
  have l1 := bx1.lt
  have c2 := bx2.c0
  have d2 := bx2.c1
  have l2 := bx2.lt
  have c3 := bx3.c0
  have d3 := bx3.c1
  have l3 := bx3.lt
  have c4 := bx4.c0
  have d4 := bx4.c1
  have l4 := bx4.lt
  go_wp2_with fail
  clear c0 d0 l0 c1 d1 l1 c2 d2 l2 c3 d3 l3 c4 d4 l4
  have SZ4 := Lib.hid (show (V.alloc (.cells #[.int .i64 (shF c d s), .int .i64 (shT c d s)] 23)).heap.size = V.heap.size + 1 by simp)
  generalize (V.alloc (.cells #[.int .i64 (shF c d s), .int .i64 (shT c d s)] 23)) = W5 at *
  generalize V.heap.size = n4 at *
  have c0 := bx0.c0
  have d0 := bx0.c1
  have l0 := bx0.lt
  have c1 := bx1.c0
  have d1 := bx1.c1
  have l1 := bx1.lt
  have c2 := bx2.c0
  have d2 := bx2.c1
  have l2 := bx2.lt
  have c3 := bx3.c0
  have d3 := bx3.c1
  have l3 := bx3.lt
  have c4 := bx4.c0
  have d4 := bx4.c1
  have l4 := bx4.lt
  refine (live_any _).mono ?_
  rintro e V ⟨rfl, hb⟩
  clear c0 d0 l0 c1 d1 l1 c2 d2 l2 c3 d3 l3 c4 d4 l4
  have bx0 := bx0.below hb
  have bx1 := bx1.below hb
  have bx2 := bx2.below hb
  have bx3 := bx3.below hb
  have bx4 := bx4.below hb
  have K := K.trans (hb.mono K.size)
  clear hb
  generalize V = W6 at *
  have c0 := bx0.c0
  have d0 := bx0.c1
  have l0 := bx0.lt
  have c1 := bx1.c0
  have d1 := bx1.c1
  have l1 := bx1.lt
  have c2 := bx2.c0
  have d2 := bx2.c1
  have l2 := bx2.lt
  have c3 := bx3.c0
  have d3 := bx3.c1
  have l3 := bx3.lt
  have c4 := bx4.c0
  have d4 := bx4.c1
  have l4 := bx4.lt
  go_wp2_with fail
  go_ret
  exact ⟨rfl, K⟩

set_option maxHeartbeats 1000000 in
theorem shifts_lo_n2 (w : World) (a b c d s : Int) (h1 : mayB a b = true) (h2 : mayB c d = true) (hN : relI a b c d ≤ 2) (q1 : shE a b s = 0) (q2 : ¬ shE c d s = 0) : Calls Try.prog 9 #[sp a b, sp c d, .int .i64 s] w (PV (.bool true) w) := by
  have k1 := may_iff.1 h1
  have k2 := may_iff.1 h2
  have hm : meetB a b c d = false := by
    rw [meet_may h1 h2]
    first | rw [may_iff] | rw [may_no]
    rcases rel_cases a b c d (by omega) (by omega) with h | h | h | h | h | h | h | h | h | h | h | h | h <;> omega
  have R : Hid (rlN a b c d = relI a b c d ∧ rlE a b c d = 0 ∧ meetB a b c d = false) := ⟨(rl_yes h1 h2).1, (rl_yes h1 h2).2, hm⟩
  have E1 := Lib.hid ((shift_back q1).1)
  have z2 : (shE c d s == 0) = false := by simpa using q2
  generalize relI a b c d = N at *
  clear h1 h2 hm k1 k2 q1 q2
  have hN1 : ¬ 2 < N := by omega
  have hN2 : decide (2 < N) = false := by simpa using hN1
  go_enter Try.func9, Try.ntmps9
  go_wp2_with fail
  have K : Below w.heap.size w ((w.alloc (.cells #[.int .i64 a, .int .i64 b] 23)).alloc (.cells #[.int .i64 c, .int .i64 d] 23)) := (((Below.refl _ _).alloc (Nat.le_refl _) _).alloc (by first | omega | (simp; done) | (simp; omega)) _)
  have bx0 : Bx ((w.alloc (.cells #[.int .i64 a, .int .i64 b] 23)).alloc (.cells #[.int .i64 c, .int .i64 d] 23)) (w.heap.size) a b := ((Bx.new' (W := w) (n := w.heap.size) (by simp) a b 23).alloc _)
  have bx1 : Bx ((w.alloc (.cells #[.int .i64 a, .int .i64 b] 23)).alloc (.cells #[.int .i64 c, .int .i64 d] 23)) (w.heap.size + 1) c d := (Bx.new' (W := (w.alloc (.cells #[.int .i64 a, .int .i64 b] 23))) (n := w.heap.size + 1) (by simp) c d 23)
  generalize ((w.alloc (.cells #[.int .i64 a, .int .i64 b] 23)).alloc (.cells #[.int .i64 c, .int .i64 d] 23)) = W1 at *
  have c0 := bx0.c0
  have d0 := bx0.c1
  have l0 := bx0.lt
  have c1 := bx1.c0
  have d1 := bx1.c1
  have l1 := bx1.lt
  refine (relate_any _ a b c d).mono ?_
  rintro e V ⟨rfl, hb⟩
  rw [R.out.1, R.out.2.1]
  clear c0 d0 l0 c1 d1 l1
  have bx0 := bx0.below hb
  have bx1 := bx1.below hb
  have K := K.trans (hb.mono K.size)
  clear hb
  generalize V = W2 at *
  have c0 := bx0.c0
  have d0 := bx0.c1
  have l0 := bx0.lt
  have c1 := bx1.c0
  have d1 := bx1.c1
  have l1 := bx1.lt
  go_wp2_with fail
  refine (meet_any _ a b c d).mono ?_
  rintro e V ⟨rfl, hb⟩
  rw [R.out.2.2]
  clear c0 d0 l0 c1 d1 l1
  have bx0 := bx0.below hb
  have bx1 := bx1.below hb
  have K := K.trans (hb.mono K.size)
  clear hb
  have bx0 := bx0.alloc (.cells #[.int .i64 (mtF a b c d), .int .i64 (mtT a b c d)] 23)
  have bx1 := bx1.alloc (.cells #[.int .i64 (mtF a b c d), .int .i64 (mtT a b c d)] 23)
  have bx2 := Bx.new V (mtF a b c d) (mtT a b c d) 23
  have K := K.alloc K.size (.cells #[.int .i64 (mtF a b c d), .int .i64 (mtT a b c d)] 23)
  have c0 := bx0.c0
  have d0 := bx0.c1
  have l0 := bx0.lt
  have c1 := bx1.c0
  have d1 := bx1.c1
  have l1 := bx1.lt
  have c2 := bx2.c0
  have d2 := bx2.c1
  have l2 := bx2.lt
  go_wp2_with fail
  clear c0 d0 l0 c1 d1 l1 c2 d2 l2
  have SZ2 := Lib.hid (show (V.alloc (.cells #[.int .i64 (mtF a b c d), .int .i64 (mtT a b c d)] 23)).heap.size = V.heap.size + 1 by simp)
  generalize (V.alloc (.cells #[.int .i64 (mtF a b c d), .int .i64 (mtT a b c d)] 23)) = W3 at *
  generalize V.heap.size = n2 at *
  have c0 := bx0.c0
  have d0 := bx0.c1
  have l0 := bx0.lt
  have c1 := bx1.c0
  have d1 := bx1.c1
  have l1 := bx1.lt
  have c2 := bx2.c0
  have d2 := bx2.c1
  have l2 := bx2.lt
  refine (shift_any _ a b s).mono ?_
  rintro e V ⟨rfl, hb⟩
  rw [E1.out.1, E1.out.2.1, E1.out.2.2.1]
  clear c0 d0 l0 c1 d1 l1 c2 d2 l2
  have bx0 := bx0.below hb
  have bx1 := bx1.below hb
  have bx2 := bx2.below hb
  have K := K.trans (hb.mono K.size)
  clear hb
  have bx0 := bx0.alloc (.cells #[.int .i64 (a + s), .int .i64 (b + s)] 23)
  have bx1 := bx1.alloc (.cells #[.int .i64 (a + s), .int .i64 (b + s)] 23)
  have bx2 := bx2.alloc (.cells #[.int .i64 (a + s), .int .i64 (b + s)] 23)
  have bx3 := Bx.new V (a + s) (b + s) 23
  have K := K.alloc K.size (.cells #[.int .i64 (a + s), .int .i64 (b + s)] 23)
  have c0 := bx0.c0
  have d0 := bx0.c1
  have l0 := bx0.lt
  have c1 := bx1.c0
  have d1 := bx1.c1
  have l1 := bx1.lt
  have c2 := bx2.c0
  have d2 := bx2.c1
  have l2 := bx2.lt
  have c3 := bx3.c0
  have d3 := bx3.c1
  have l3 := bx3.lt
  go_wp2_with fail
  clear c0 d0 l0 c1 d1 l1 c2 d2 l2 c3 d3 l3
  have SZ3 := Lib.hid (show (V.alloc (.cells #[.int .i64 (a + s), .int .i64 (b + s)] 23)).heap.size = V.heap.size + 1 by simp)
  generalize (V.alloc (.cells #[.int .i64 (a + s), .int .i64 (b + s)] 23)) = W4 at *
  generalize V.heap.size = n3 at *
  have c0 := bx0.c0
  have d0 := bx0.c1
  have l0 := bx0.lt
  have c1 := bx1.c0
  have d1 := bx1.c1
  have l1 := bx1.lt
  have c2 := bx2.c0
  have d2 := bx2.c1
  have l2 := bx2.lt
  have c3 := bx3.c0
  have d3 := bx3.c1
  have l3 := bx3.lt
  refine (shift_any _ c d s).mono ?_
  rintro e V ⟨rfl, hb⟩
  clear c0 d0 l0 c1 d1 l1 c2 d2 l2 c3 d3 l3
  have bx0 := bx0.below hb
  have bx1 := bx1.below hb
  have bx2 := bx2.below hb
  have bx3 := bx3.below hb
  have K := K.trans (hb.mono K.size)
  clear hb
  have bx0 := bx0.alloc (.cells #[.int .i64 (shF c d s), .int .i64 (shT c d s)] 23)
  have bx1 := bx1.alloc (.cells #[.int .i64 (shF c d s), .int .i64 (shT c d s)] 23)
  have bx2 := bx2.alloc (.cells #[.int .i64 (shF c d s), .int .i64 (shT c d s)] 23)
  have bx3 := bx3.alloc (.cells #[.int .i64 (shF c d s), .int .i64 (shT c d s)] 23)
  have bx4 := Bx.new V (shF c d s) (shT c d s) 23
  have K := K.alloc K.size (.cells #[.int .i64 (shF c d s), .int .i64 (shT c d s)] 23)
  have c0 := bx0.c0
  have d0 := bx0.c1
  have l0 := bx0.lt
  have c1 := bx1.c0
  have d1 := bx1.c1
  have l1 := bx1.lt
  have c2 := bx2.c0
  have d2 := bx2.c1
  have l2 := bx2.lt
  have c3 := bx3.c0
  have d3 := bx3.c1
  have l3 := bx3.lt
  have c4 := bx4.c0
  have d4 := bx4.c1
  have l4 := bx4.lt
  go_wp2_with fail
  clear c0 d0 l0 c1 d1 l1 c2 d2 l2 c3 d3 l3 c4 d4 l4
  have SZ4 := Lib.hid (show (V.alloc (.cells #[.int .i64 (shF c d s), .int .i64 (shT c d s)] 23)).heap.size = V.heap.size + 1 by simp)
  generalize (V.alloc (.cells #[.int .i64 (shF c d s), .int .i64 (shT c d s)] 23)) = W5 at *
  generalize V.heap.size = n4 at *
  have c0 := bx0.c0
  have d0 := bx0.c1
  have l0 := bx0.lt
  have c1 := bx1.c0
  have d1 := bx1.c1
  have l1 := bx1.lt
  have c2 := bx2.c0
  have d2 := bx2.c1
  have l2 := bx2.lt
  have c3 := bx3.c0
  have d3 := bx3.c1
  have l3 := bx3.lt
  have c4 := bx4.c0
  have d4 := bx4.c1
  have l4 := bx4.lt
  refine (live_any _).mono ?_
  rintro e V ⟨rfl, hb⟩
  clear c0 d0 l0 c1 d1 l1 c2 d2 l2 c3 d3 l3 c4 d4 l4
  have bx0 := bx0.below hb
  have bx1 := bx1.below hb
  have bx2 := bx2.below hb
  have bx3 := bx3.below hb
  have bx4 := bx4.below hb
  have K := K.trans (hb.mono K.size)
  clear hb
  generalize V = W6 at *
  have c0 := bx0.c0
  have d0 := bx0.c1
  have l0 := bx0.lt
  have c1 := bx1.c0
  have d1 := bx1.c1
  have l1 := bx1.lt
  have c2 := bx2.c0
  have d2 := bx2.c1
  have l2 := bx2.lt
  have c3 := bx3.c0
  have d3 := bx3.c1
  have l3 := bx3.lt
  have c4 := bx4.c0
  have d4 := bx4.c1
  have l4 := bx4.lt
  go_wp2_with fail
  go_ret
  exact ⟨rfl, K⟩

set_option maxHeartbeats 1000000 in
theorem shifts_lo_y (w : World) (a b c d s : Int) (h1 : mayB a b = true) (h2 : mayB c d = true) (hN : relI a b c d ≤ 2) (q1 : shE a b s = 0) (q2 : shE c d s = 0) : Calls Try.prog 9 #[sp a b, sp c d, .int .i64 s] w (PV (.bool true) w) := by
  have k1 := may_iff.1 h1
  have k2 := may_iff.1 h2
  have hm : meetB a b c d = false := by
    rw [meet_may h1 h2]
    first | rw [may_iff] | rw [may_no]
    rcases rel_cases a b c d (by omega) (by omega) with h | h | h | h | h | h | h | h | h | h | h | h | h <;> omega
  have R : Hid (rlN a b c d = relI a b c d ∧ rlE a b c d = 0 ∧ meetB a b c d = false) := ⟨(rl_yes h1 h2).1, (rl_yes h1 h2).2, hm⟩
  have R2 : Hid (rlN (a + s) (b + s) (c + s) (d + s) = relI a b c d ∧ rlE (a + s) (b + s) (c + s) (d + s) = 0) := ⟨by rw [(rl_yes (shE_zero q1).2.2.2 (shE_zero q2).2.2.2).1, rel_shift], (rl_yes (shE_zero q1).2.2.2 (shE_zero q2).2.2.2).2⟩
  have E1 := Lib.hid ((shift_back q1).1)
  have E2 := Lib.hid ((shift_back q2).1)
  generalize relI a b c d = N at *
  clear h1 h2 hm k1 k2 q1 q2
  have hN1 : ¬ 2 < N := by omega
  have hN2 : decide (2 < N) = false := by simpa using hN1
  go_enter Try.func9, Try.ntmps9
  go_wp2_with fail
  have K : Below w.heap.size w ((w.alloc (.cells #[.int .i64 a, .int .i64 b] 23)).alloc (.cells #[.int .i64 c, .int .i64 d] 23)) := (((Below.refl _ _).alloc (Nat.le_refl _) _).alloc (by first | omega | (simp; done) | (simp; omega)) _)
  have bx0 : Bx ((w.alloc (.cells #[.int .i64 a, .int .i64 b] 23)).alloc (.cells #[.int .i64 c, .int .i64 d] 23)) (w.heap.size) a b := ((Bx.new' (W := w) (n := w.heap.size) (by simp) a b 23).alloc _)
  have bx1 : Bx ((w.alloc (.cells #[.int .i64 a, .int .i64 b] 23)).alloc (.cells #[.int .i64 c, .int .i64 d] 23)) (w.heap.size + 1) c d := (Bx.new' (W := (w.alloc (.cells #[.int .i64 a, .int .i64 b] 23))) (n := w.heap.size + 1) (by simp) c d 23)
  generalize ((w.alloc (.cells #[.int .i64 a, .int .i64 b] 23)).alloc (.cells #[.int .i64 c, .int .i64 d] 23)) = W1 at *
  have c0 := bx0.c0
  have d0 := bx0.c1
  have l0 := bx0.lt
  have c1 := bx1.c0
  have d1 := bx1.c1
  have l1 := bx1.lt
  refine (relate_any _ a b c d).mono ?_
  rintro e V ⟨rfl, hb⟩
  rw [R.out.1, R.out.2.1]
  clear c0 d0 l0 c1 d1 l1
  have bx0 := bx0.below hb
  have bx1 := bx1.below hb
  have K := K.trans (hb.mono K.size)
  clear hb
  generalize V = W2 at *
  have c0 := bx0.c0
  have d0 := bx0.c1
  have l0 := bx0.lt
  have c1 := bx1.c0
  have d1 := bx1.c1
  have l1 := bx1.lt
  go_wp2_with fail
  refine (meet_any _ a b c d).mono ?_
  rintro e V ⟨rfl, hb⟩
  rw [R.out.2.2]
  clear c0 d0 l0 c1 d1 l1
  have bx0 := bx0.below hb
  have bx1 := bx1.below hb
  have K := K.trans (hb.mono K.size)
  clear hb
  have bx0 := bx0.alloc (.cells #[.int .i64 (mtF a b c d), .int .i64 (mtT a b c d)] 23)
  have bx1 := bx1.alloc (.cells #[.int .i64 (mtF a b c d), .int .i64 (mtT a b c d)] 23)
  have bx2 := Bx.new V (mtF a b c d) (mtT a b c d) 23
  have K := K.alloc K.size (.cells #[.int .i64 (mtF a b c d), .int .i64 (mtT a b c d)] 23)
  have c0 := bx0.c0
  have d0 := bx0.c1
  have l0 := bx0.lt
  have c1 := bx1.c0
  have d1 := bx1.c1
  have l1 := bx1.lt
  have c2 := bx2.c0
  have d2 := bx2.c1
  have l2 := bx2.lt
  go_wp2_with fail
  clear c0 d0 l0 c1 d1 l1 c2 d2 l2
  have SZ2 := Lib.hid (show (V.alloc (.cells #[.int .i64 (mtF a b c d), .int .i64 (mtT a b c d)] 23)).heap.size = V.heap.size + 1 by simp)
  generalize (V.alloc (.cells #[.int .i64 (mtF a b c d), .int .i64 (mtT a b c d)] 23)) = W3 at *
  generalize V.heap.size = n2 at *
  have c0 := bx0.c0
  have d0 := bx0.c1
  have l0 := bx0.lt
  have c1 := bx1.c0
  have d1 := bx1.c1
  have l1 := bx1.lt
  have c2 := bx2.c0
  have d2 := bx2.c1
  have l2 := bx2.lt
  refine (shift_any _ a b s).mono ?_
  rintro e V ⟨rfl, hb⟩
  rw [E1.out.1, E1.out.2.1, E1.out.2.2.1]
  clear c0 d0 l0 c1 d1 l1 c2 d2 l2
  have bx0 := bx0.below hb
  have bx1 := bx1.below hb
  have bx2 := bx2.below hb
  have K := K.trans (hb.mono K.size)
  clear hb
  have bx0 := bx0.alloc (.cells #[.int .i64 (a + s), .int .i64 (b + s)] 23)
  have bx1 := bx1.alloc (.cells #[.int .i64 (a + s), .int .i64 (b + s)] 23)
  have bx2 := bx2.alloc (.cells #[.int .i64 (a + s), .int .i64 (b + s)] 23)
  have bx3 := Bx.new V (a + s) (b + s) 23
  have K := K.alloc K.size (.cells #[.int .i64 (a + s), .int .i64 (b + s)] 23)
  have c0 := bx0.c0
  have d0 := bx0.c1
  have l0 := bx0.lt
  have c1 := bx1.c0
  have d1 := bx1.c1
  have l1 := bx1.lt
  have c2 := bx2.c0
  have d2 := bx2.c1
  have l2 := bx2.lt
  have c3 := bx3.c0
  have d3 := bx3.c1
  have l3 := bx3.lt
  go_wp2_with fail
  clear c0 d0 l0 c1 d1 l1 c2 d2 l2 c3 d3 l3
  have SZ3 := Lib.hid (show (V.alloc (.cells #[.int .i64 (a + s), .int .i64 (b + s)] 23)).heap.size = V.heap.size + 1 by simp)
  generalize (V.alloc (.cells #[.int .i64 (a + s), .int .i64 (b + s)] 23)) = W4 at *
  generalize V.heap.size = n3 at *
  have c0 := bx0.c0
  have d0 := bx0.c1
  have l0 := bx0.lt
  have c1 := bx1.c0
  have d1 := bx1.c1
  have l1 := bx1.lt
  have c2 := bx2.c0
  have d2 := bx2.c1
  have l2 := bx2.lt
  have c3 := bx3.c0
  have d3 := bx3.c1
  have l3 := bx3.lt
  refine (shift_any _ c d s).mono ?_
  rintro e V ⟨rfl, hb⟩
  rw [E2.out.1, E2.out.2.1, E2.out.2.2.1]
  clear c0 d0 l0 c1 d1 l1 c2 d2 l2 c3 d3 l3
  have bx0 := bx0.below hb
  have bx1 := bx1.below hb
  have bx2 := bx2.below hb
  have bx3 := bx3.below hb
  have K := K.trans (hb.mono K.size)
  clear hb
  have bx0 := bx0.alloc (.cells #[.int .i64 (c + s), .int .i64 (d + s)] 23)
  have bx1 := bx1.alloc (.cells #[.int .i64 (c + s), .int .i64 (d + s)] 23)
  have bx2 := bx2.alloc (.cells #[.int .i64 (c + s), .int .i64 (d + s)] 23)
  have bx3 := bx3.alloc (.cells #[.int .i64 (c + s), .int .i64 (d + s)] 23)
  have bx4 := Bx.new V (c + s) (d + s) 23
  have K := K.alloc K.size (.cells #[.int .i64 (c + s), .int .i64 (d + s)] 23)
  have c0 := bx0.c0
  have d0 := bx0.c1
  have l0 := bx0.lt
  have c1 := bx1.c0
  have d1 := bx1.c1
  have l1 := bx1.lt
  have c2 := bx2.c0
  have d2 := bx2.c1
  have l2 := bx2.lt
  have c3 := bx3.c0
  have d3 := bx3.c1
  have l3 := bx3.lt
  have c4 := bx4.c0
  have d4 := bx4.c1
  have l4 := bx4.lt
  go_wp2_with fail
  clear c0 d0 l0 c1 d1 l1 c2 d2 l2 c3 d3 l3 c4 d4 l4
  have SZ4 := Lib.hid (show (V.alloc (.cells #[.int .i64 (c + s), .int .i64 (d + s)] 23)).heap.size = V.heap.size + 1 by simp)
  generalize (V.alloc (.cells #[.int .i64 (c + s), .int .i64 (d + s)] 23)) = W5 at *
  generalize V.heap.size = n4 at *
  have c0 := bx0.c0
  have d0 := bx0.c1
  have l0 := bx0.lt
  have c1 := bx1.c0
  have d1 := bx1.c1
  have l1 := bx1.lt
  have c2 := bx2.c0
  have d2 := bx2.c1
  have l2 := bx2.lt
  have c3 := bx3.c0
  have d3 := bx3.c1
  have l3 := bx3.lt
  have c4 := bx4.c0
  have d4 := bx4.c1
  have l4 := bx4.lt
  refine (relate_any _ (a + s) (b + s) (c + s) (d + s)).mono ?_
  rintro e V ⟨rfl, hb⟩
  rw [R2.out.1, R2.out.2]
  clear c0 d0 l0 c1 d1 l1 c2 d2 l2 c3 d3 l3 c4 d4 l4
  have bx0 := bx0.below hb
  have bx1 := bx1.below hb
  have bx2 := bx2.below hb
  have bx3 := bx3.below hb
  have bx4 := bx4.below hb
  have K := K.trans (hb.mono K.size)
  clear hb
  generalize V = W6 at *
  have c0 := bx0.c0
  have d0 := bx0.c1
  have l0 := bx0.lt
  have c1 := bx1.c0
  have d1 := bx1.c1
  have l1 := bx1.lt
  have c2 := bx2.c0
  have d2 := bx2.c1
  have l2 := bx2.lt
  have c3 := bx3.c0
  have d3 := bx3.c1
  have l3 := bx3.lt
  have c4 := bx4.c0
  have d4 := bx4.c1
  have l4 := bx4.lt
  go_wp2_with fail
  refine (live_any _).mono ?_
  rintro e V ⟨rfl, hb⟩
  clear c0 d0 l0 c1 d1 l1 c2 d2 l2 c3 d3 l3 c4 d4 l4
  have bx0 := bx0.below hb
  have bx1 := bx1.below hb
  have bx2 := bx2.below hb
  have bx3 := bx3.below hb
  have bx4 := bx4.below hb
  have K := K.trans (hb.mono K.size)
  clear hb
  generalize V = W7 at *
  have c0 := bx0.c0
  have d0 := bx0.c1
  have l0 := bx0.lt
  have c1 := bx1.c0
  have d1 := bx1.c1
  have l1 := bx1.lt
  have c2 := bx2.c0
  have d2 := bx2.c1
  have l2 := bx2.lt
  have c3 := bx3.c0
  have d3 := bx3.c1
  have l3 := bx3.lt
  have c4 := bx4.c0
  have d4 := bx4.c1
  have l4 := bx4.lt
  go_wp2_with fail
  go_ret
  exact ⟨rfl, K⟩

set_option maxHeartbeats 1000000 in
theorem shifts_mid_n1 (w : World) (a b c d s : Int) (h1 : mayB a b = true) (h2 : mayB c d = true) (hN : 2 < relI a b c d ∧ relI a b c d < 12) (q1 : ¬ shE a b s = 0) : Calls Try.prog 9 #[sp a b, sp c d, .int .i64 s] w (PV (.bool true) w) := by
  have k1 := may_iff.1 h1
  have k2 := may_iff.1 h2
  have hm : meetB a b c d = true := by
    rw [meet_may h1 h2]
    first | rw [may_iff] | rw [may_no]
    rcases rel_cases a b c d (by omega) (by omega) with h | h | h | h | h | h | h | h | h | h | h | h | h <;> omega
  have R : Hid (rlN a b c d = relI a b c d ∧ rlE a b c d = 0 ∧ meetB a b c d = true) := ⟨(rl_yes h1 h2).1, (rl_yes h1 h2).2, hm⟩
  have z1 : (shE a b s == 0) = false := by simpa using q1
  generalize relI a b c d = N at *
  clear h1 h2 hm k1 k2 q1
  obtain ⟨hN1, hN2⟩ := hN
  go_enter Try.func9, Try.ntmps9
  go_wp2_with fail
  have K : Below w.heap.size w ((w.alloc (.cells #[.int .i64 a, .int .i64 b] 23)).alloc (.cells #[.int .i64 c, .int .i64 d] 23)) := (((Below.refl _ _).alloc (Nat.le_refl _) _).alloc (by first | omega | (simp; done) | (simp; omega)) _)
  have bx0 : Bx ((w.alloc (.cells #[.int .i64 a, .int .i64 b] 23)).alloc (.cells #[.int .i64 c, .int .i64 d] 23)) (w.heap.size) a b := ((Bx.new' (W := w) (n := w.heap.size) (by simp) a b 23).alloc _)
  have bx1 : Bx ((w.alloc (.cells #[.int .i64 a, .int .i64 b] 23)).alloc (.cells #[.int .i64 c, .int .i64 d] 23)) (w.heap.size + 1) c d := (Bx.new' (W := (w.alloc (.cells #[.int .i64 a, .int .i64 b] 23))) (n := w.heap.size + 1) (by simp) c d 23)
  generalize ((w.alloc (.cells #[.int .i64 a, .int .i64 b] 23)).alloc (.cells #[.int .i64 c, .int .i64 d] 23)) = W1 at *
  have c0 := bx0.c0
  have d0 := bx0.c1
  have l0 := bx0.lt
  have c1 := bx1.c0
  have d1 := bx1.c1
  have l1 := bx1.lt
  refine (relate_any _ a b c d).mono ?_
  rintro e V ⟨rfl, hb⟩
  rw [R.out.1, R.out.2.1]
  clear c0 d0 l0 c1 d1 l1
  have bx0 := bx0.below hb
  have bx1 := bx1.below hb
  have K := K.trans (hb.mono K.size)
  clear hb
  generalize V = W2 at *
  have c0 := bx0.c0
  have d0 := bx0.c1
  have l0 := bx0.lt
  have c1 := bx1.c0
  have d1 := bx1.c1
  have l1 := bx1.lt
  go_wp2_with fail
  refine (meet_any _ a b c d).mono ?_
  rintro e V ⟨rfl, hb⟩
  rw [R.out.2.2]
  clear c0 d0 l0 c1 d1 l1
  have bx0 := bx0.below hb
  have bx1 := bx1.below hb
  have K := K.trans (hb.mono K.size)
  clear hb
  have bx0 := bx0.alloc (.cells #[.int .i64 (mtF a b c d), .int .i64 (mtT a b c d)] 23)
  have bx1 := bx1.alloc (.cells #[.int .i64 (mtF a b c d), .int .i64 (mtT a b c d)] 23)
  have bx2 := Bx.new V (mtF a b c d) (mtT a b c d) 23
  have K := K.alloc K.size (.cells #[.int .i64 (mtF a b c d), .int .i64 (mtT a b c d)] 23)
  have c0 := bx0.c0
  have d0 := bx0.c1
  have l0 := bx0.lt
  have c1 := bx1.c0
  have d1 := bx1.c1
  have l1 := bx1.lt
  have c2 := bx2.c0
  have d2 := bx2.c1
  have l2 := bx2.lt
  go_wp2_with fail
  clear c0 d0 l0 c1 d1 l1 c2 d2 l2
  have SZ2 := Lib.hid (show (V.alloc (.cells #[.int .i64 (mtF a b c d), .int .i64 (mtT a b c d)] 23)).heap.size = V.heap.size + 1 by simp)
  generalize (V.alloc (.cells #[.int .i64 (mtF a b c d), .int .i64 (mtT a b c d)] 23)) = W3 at *
  generalize V.heap.size = n2 at *
  have c0 := bx0.c0
  have d0 := bx0.c1
  have l0 := bx0.lt
  have c1 := bx1.c0
  have d1 := bx1.c1
  have l1 := bx1.lt
  have c2 := bx2.c0
  have d2 := bx2.c1
  have l2 := bx2.lt
  refine (shift_any _ a b s).mono ?_
  rintro e V ⟨rfl, hb⟩
  clear c0 d0 l0 c1 d1 l1 c2 d2 l2
  have bx0 := bx0.below hb
  have bx1 := bx1.below hb
  have bx2 := bx2.below hb
  have K := K.trans (hb.mono K.size)
  clear hb
  have bx0 := bx0.alloc (.cells #[.int .i64 (shF a b s), .int .i64 (shT a b s)] 23)
  have bx1 := bx1.alloc (.cells #[.int .i64 (shF a b s), .int .i64 (shT a b s)] 23)
  have bx2 := bx2.alloc (.cells #[.int .i64 (shF a b s), .int .i64 (shT a b s)] 23)
  have bx3 := Bx.new V (shF a b s) (shT a b s) 23
  have K := K.alloc K.size (.cells #[.int .i64 (shF a b s), .int .i64 (shT a b s)] 23)
  have c0 := bx0.c0
  have d0 := bx0.c1
  have l0 := bx0.lt
  have c1 := bx1.c0
  have d1 := bx1.c1
  have l1 := bx1.lt
  have c2 := bx2.c0
  have d2 := bx2.c1
  have l2 := bx2.lt
  have c3 := bx3.c0
  have d3 := bx3.c1
  have l3 := bx3.lt
  go_wp2_with fail
  clear c0 d0 l0 c1 d1 l1 c2 d2 l2 c3 d3 l3
  have SZ3 := Lib.hid (show (V.alloc (.cells #[.int .i64 (shF a b s), .int .i64 (shT a b s)] 23)).heap.size = V.heap.size + 1 by simp)
  generalize (V.alloc (.cells #[.int .i64 (shF a b s), .int .i64 (shT a b s)] 23)) = W4 at *
  generalize V.heap.size = n3 at *
  have c0 := bx0.c0
  have d0 := bx0.c1
  have l0 := bx0.lt
  have c1 := bx1.c0
  have d1 := bx1.c1
  have l1 := bx1.lt
  have c2 := bx2.c0
  have d2 := bx2.c1
  have l2 := bx2.lt
  have c3 := bx3.c0
  have d3 := bx3.c1
  have l3 := bx3.lt
  refine (shift_any _ c d s).mono ?_
  rintro e V ⟨rfl, hb⟩
  clear c0 d0 l0 c1 d1 l1 c2 d2 l2 c3 d3 l3
  have bx0 := bx0.below hb
  have bx1 := bx1.below hb
  have bx2 := bx2.below hb
  have bx3 := bx3.below hb
  have K := K.trans (hb.mono K.size)
  clear hb
  have bx0 := bx0.alloc (.cells #[.int .i64 (shF c d s), .int .i64 (shT c d s)] 23)
  have bx1 := bx1.alloc (.cells #[.int .i64 (shF c d s), .int .i64 (shT c d s)] 23)
  have bx2 := bx2.alloc (.cells #[.int .i64 (shF c d s), .int .i64 (shT c d s)] 23)
  have bx3 := bx3.alloc (.cells #[.int .i64 (shF c d s), .int .i64 (shT c d s)] 23)
  have bx4 := Bx.new V (shF c d s) (shT c d s) 23
  have K := K.alloc K.size (.cells #[.int .i64 (shF c d s), .int .i64 (shT c d s)] 23)
  have c0 := bx0.c0
  have d0 := bx0.c1
  have l0 := bx0.lt
  have c1 := bx1.c0
  have d1 := bx1.c1
  have l1 := bx1.lt
  have c2 := bx2.c0
  have d2 := bx2.c1
  have l2 := bx2.lt
  have c3 := bx3.c0
  have d3 := bx3.c1
  have l3 := bx3.lt
  have c4 := bx4.c0
  have d4 := bx4.c1
  have l4 := bx4.lt
  go_wp2_with fail
  clear c0 d0 l0 c1 d1 l1 c2 d2 l2 c3 d3 l3 c4 d4 l4
  have SZ4 := Lib.hid (show (V.alloc (.cells #[.int .i64 (shF c d s), .int .i64 (shT c d s)] 23)).heap.size = V.heap.size + 1 by simp)
  generalize (V.alloc (.cells #[.int .i64 (shF c d s), .int .i64 (shT c d s)] 23)) = W5 at *
  generalize V.heap.size = n4 at *
  have c0 := bx0.c0
  have d0 := bx0.c1
  have l0 := bx0.lt
  have c1 := bx1.c0
  have d1 := bx1.c1
  have l1 := bx1.lt
  have c2 := bx2.c0
  have d2 := bx2.c1
  have l2 := bx2.lt
  have c3 := bx3.c0
  have d3 := bx3.c1
  have l3 := bx3.lt
  have c4 := bx4.c0
  have d4 := bx4.c1
  have l4 := bx4.lt
  refine (live_any _).mono ?_
  rintro e V ⟨rfl, hb⟩
  clear c0 d0 l0 c1 d1 l1 c2 d2 l2 c3 d3 l3 c4 d4 l4
  have bx0 := bx0.below hb
  have bx1 := bx1.below hb
  have bx2 := bx2.below hb
  have bx3 := bx3.below hb
  have bx4 := bx4.below hb
  have K := K.trans (hb.mono K.size)
  clear hb
  generalize V = W6 at *
  have c0 := bx0.c0
  have d0 := bx0.c1
  have l0 := bx0.lt
  have c1 := bx1.c0
  have d1 := bx1.c1
  have l1 := bx1.lt
  have c2 := bx2.c0
  have d2 := bx2.c1
  have l2 := bx2.lt
  have c3 := bx3.c0
  have d3 := bx3.c1
  have l3 := bx3.lt
  have c4 := bx4.c0
  have d4 := bx4.c1
  have l4 := bx4.lt
  go_wp2_with fail
  go_ret
  exact ⟨rfl, K⟩

set_option maxHeartbeats 1000000 in
theorem shifts_mid_n2 (w : World) (a b c d s : Int) (h1 : mayB a b = true) (h2 : mayB c d = true) (hN : 2 < relI a b c d ∧ relI a b c d < 12) (q1 : shE a b s = 0) (q2 : ¬ shE c d s = 0) : Calls Try.prog 9 #[sp a b, sp c d, .int .i64 s] w (PV (.bool true) w) := by
  have k1 := may_iff.1 h1
  have k2 := may_iff.1 h2
  have hm : meetB a b c d = true := by
    rw [meet_may h1 h2]
    first | rw [may_iff] | rw [may_no]
    rcases rel_cases a b c d (by omega) (by omega) with h | h | h | h | h | h | h | h | h | h | h | h | h <;> omega
  have R : Hid (rlN a b c d = relI a b c d ∧ rlE a b c d = 0 ∧ meetB a b c d = true) := ⟨(rl_yes h1 h2).1, (rl_yes h1 h2).2, hm⟩
  have E1 := Lib.hid ((shift_back q1).1)
  have z2 : (shE c d s == 0) = false := by simpa using q2
  generalize relI a b c d = N at *
  clear h1 h2 hm k1 k2 q1 q2
  obtain ⟨hN1, hN2⟩ := hN
  go_enter Try.func9, Try.ntmps9
  go_wp2_with fail
  have K : Below w.heap.size w ((w.alloc (.cells #[.int .i64 a, .int .i64 b] 23)).alloc (.cells #[.int .i64 c, .int .i64 d] 23)) := (((Below.refl _ _).alloc (Nat.le_refl _) _).alloc (by first | omega | (simp; done) | (simp; omega)) _)
  have bx0 : Bx ((w.alloc (.cells #[.int .i64 a, .int .i64 b] 23)).alloc (.cells #[.int .i64 c, .int .i64 d] 23)) (w.heap.size) a b := ((Bx.new' (W := w) (n := w.heap.size) (by simp) a b 23).alloc _)
  have bx1 : Bx ((w.alloc (.cells #[.int .i64 a, .int .i64 b] 23)).alloc (.cells #[.int .i64 c, .int .i64 d] 23)) (w.heap.size + 1) c d := (Bx.new' (W := (w.alloc (.cells #[.int .i64 a, .int .i64 b] 23))) (n := w.heap.size + 1) (by simp) c d 23)
  generalize ((w.alloc (.cells #[.int .i64 a, .int .i64 b] 23)).alloc (.cells #[.int .i64 c, .int .i64 d] 23)) = W1 at *
  have c0 := bx0.c0
  have d0 := bx0.c1
  have l0 := bx0.lt
  have c1 := bx1.c0
  have d1 := bx1.c1
  have l1 := bx1.lt
  refine (relate_any _ a b c d).mono ?_
  rintro e V ⟨rfl, hb⟩
  rw [R.out.1, R.out.2.1]
  clear c0 d0 l0 c1 d1 l1
  have bx0 := bx0.below hb
  have bx1 := bx1.below hb
  have K := K.trans (hb.mono K.size)
  clear hb
  generalize V = W2 at *
  have c0 := bx0.c0
  have d0 := bx0.c1
  have l0 := bx0.lt
  have c1 := bx1.c0
  have d1 := bx1.c1
  have l1 := bx1.lt
  go_wp2_with fail
  refine (meet_any _ a b c d).mono ?_
  rintro e V ⟨rfl, hb⟩
  rw [R.out.2.2]
  clear c0 d0 l0 c1 d1 l1
  have bx0 := bx0.below hb
  have bx1 := bx1.below hb
  have K := K.trans (hb.mono K.size)
  clear hb
  have bx0 := bx0.alloc (.cells #[.int .i64 (mtF a b c d), .int .i64 (mtT a b c d)] 23)
  have bx1 := bx1.alloc (.cells #[.int .i64 (mtF a b c d), .int .i64 (mtT a b c d)] 23)
  have bx2 := Bx.new V (mtF a b c d) (mtT a b c d) 23
  have K := K.alloc K.size (.cells #[.int .i64 (mtF a b c d), .int .i64 (mtT a b c d)] 23)
  have c0 := bx0.c0
  have d0 := bx0.c1
  have l0 := bx0.lt
  have c1 := bx1.c0
  have d1 := bx1.c1
  have l1 := bx1.lt
  have c2 := bx2.c0
  have d2 := bx2.c1
  have l2 := bx2.lt
  go_wp2_with fail
  clear c0 d0 l0 c1 d1 l1 c2 d2 l2
  have SZ2 := Lib.hid (show (V.alloc (.cells #[.int .i64 (mtF a b c d), .int .i64 (mtT a b c d)] 23)).heap.size = V.heap.size + 1 by simp)
  generalize (V.alloc (.cells #[.int .i64 (mtF a b c d), .int .i64 (mtT a b c d)] 23)) = W3 at *
  generalize V.heap.size = n2 at *
  have c0 := bx0.c0
  have d0 := bx0.c1
  have l0 := bx0.lt
  have c1 := bx1.c0
  have d1 := bx1.c1
  have l1 := bx1.lt
  have c2 := bx2.c0
  have d2 := bx2.c1
  have l2 := bx2.lt
  refine (shift_any _ a b s).mono ?_
  rintro e V ⟨rfl, hb⟩
  rw [E1.out.1, E1.out.2.1, E1.out.2.2.1]
  clear c0 d0 l0 c1 d1 l1 c2 d2 l2
  have bx0 := bx0.below hb
  have bx1 := bx1.below hb
  have bx2 := bx2.below hb
  have K := K.trans (hb.mono K.size)
  clear hb
  have bx0 := bx0.alloc (.cells #[.int .i64 (a + s), .int .i64 (b + s)] 23)
  have bx1 := bx1.alloc (.cells #[.int .i64 (a + s), .int .i64 (b + s)] 23)
  have bx2 := bx2.alloc (.cells #[.int .i64 (a + s), .int .i64 (b + s)] 23)
  have bx3 := Bx.new V (a + s) (b + s) 23
  have K := K.alloc K.size (.cells #[.int .i64 (a + s), .int .i64 (b + s)] 23)
  have c0 := bx0.c0
  have d0 := bx0.c1
  have l0 := bx0.lt
  have c1 := bx1.c0
  have d1 := bx1.c1
  have l1 := bx1.lt
  have c2 := bx2.c0
  have d2 := bx2.c1
  have l2 := bx2.lt
  have c3 := bx3.c0
  have d3 := bx3.c1
  have l3 := bx3.lt
  go_wp2_with fail
  clear c0 d0 l0 c1 d1 l1 c2 d2 l2 c3 d3 l3
  have SZ3 := Lib.hid (show (V.alloc (.cells #[.int .i64 (a + s), .int .i64 (b + s)] 23)).heap.size = V.heap.size + 1 by simp)
  generalize (V.alloc (.cells #[.int .i64 (a + s), .int .i64 (b + s)] 23)) = W4 at *
  generalize V.heap.size = n3 at *
  have c0 := bx0.c0
  have d0 := bx0.c1
  have l0 := bx0.lt
  have c1 := bx1.c0
  have d1 := bx1.c1
  have l1 := bx1.lt
  have c2 := bx2.c0
  have d2 := bx2.c1
  have l2 := bx2.lt
  have c3 := bx3.c0
  have d3 := bx3.c1
  have l3 := bx3.lt
  refine (shift_any _ c d s).mono ?_
  rintro e V ⟨rfl, hb⟩
  clear c0 d0 l0 c1 d1 l1 c2 d2 l2 c3 d3 l3
  have bx0 := bx0.below hb
  have bx1 := bx1.below hb
  have bx2 := bx2.below hb
  have bx3 := bx3.below hb
  have K := K.trans (hb.mono K.size)
  clear hb
  have bx0 := bx0.alloc (.cells #[.int .i64 (shF c d s), .int .i64 (shT c d s)] 23)
  have bx1 := bx1.alloc (.cells #[.int .i64 (shF c d s), .int .i64 (shT c d s)] 23)
  have bx2 := bx2.alloc (.cells #[.int .i64 (shF c d s), .int .i64 (shT c d s)] 23)
  have bx3 := bx3.alloc (.cells #[.int .i64 (shF c d s), .int .i64 (shT c d s)] 23)
  have bx4 := Bx.new V (shF c d s) (shT c d s) 23
  have K := K.alloc K.size (.cells #[.int .i64 (shF c d s), .int .i64 (shT c d s)] 23)
  have c0 := bx0.c0
  have d0 := bx0.c1
  have l0 := bx0.lt
  have c1 := bx1.c0
  have d1 := bx1.c1
  have l1 := bx1.lt
  have c2 := bx2.c0
  have d2 := bx2.c1
  have l2 := bx2.lt
  have c3 := bx3.c0
  have d3 := bx3.c1
  have l3 := bx3.lt
  have c4 := bx4.c0
  have d4 := bx4.c1
  have l4 := bx4.lt
  go_wp2_with fail
  clear c0 d0 l0 c1 d1 l1 c2 d2 l2 c3 d3 l3 c4 d4 l4
  have SZ4 := Lib.hid (show (V.alloc (.cells #[.int .i64 (shF c d s), .int .i64 (shT c d s)] 23)).heap.size = V.heap.size + 1 by simp)
  generalize (V.alloc (.cells #[.int .i64 (shF c d s), .int .i64 (shT c d s)] 23)) = W5 at *
  generalize V.heap.size = n4 at *
  have c0 := bx0.c0
  have d0 := bx0.c1
  have l0 := bx0.lt
  have c1 := bx1.c0
  have d1 := bx1.c1
  have l1 := bx1.lt
  have c2 := bx2.c0
  have d2 := bx2.c1
  have l2 := bx2.lt
  have c3 := bx3.c0
  have d3 := bx3.c1
  have l3 := bx3.lt
  have c4 := bx4.c0
  have d4 := bx4.c1
  have l4 := bx4.lt
  refine (live_any _).mono ?_
  rintro e V ⟨rfl, hb⟩
  clear c0 d0 l0 c1 d1 l1 c2 d2 l2 c3 d3 l3 c4 d4 l4
  have bx0 := bx0.below hb
  have bx1 := bx1.below hb
  have bx2 := bx2.below hb
  have bx3 := bx3.below hb
  have bx4 := bx4.below hb
  have K := K.trans (hb.mono K.size)
  clear hb
  generalize V = W6 at *
  have c0 := bx0.c0
  have d0 := bx0.c1
  have l0 := bx0.lt
  have c1 := bx1.c0
  have d1 := bx1.c1
  have l1 := bx1.lt
  have c2 := bx2.c0
  have d2 := bx2.c1
  have l2 := bx2.lt
  have c3 := bx3.c0
  have d3 := bx3.c1
  have l3 := bx3.lt
  have c4 := bx4.c0
  have d4 := bx4.c1
  have l4 := bx4.lt
  go_wp2_with fail
  go_ret
  exact ⟨rfl, K⟩

set_option maxHeartbeats 1000000 in
theorem shifts_mid_y (w : World) (a b c d s : Int) (h1 : mayB a b = true) (h2 : mayB c d = true) (hN : 2 < relI a b c d ∧ relI a b c d < 12) (q1 : shE a b s = 0) (q2 : shE c d s = 0) : Calls Try.prog 9 #[sp a b, sp c d, .int .i64 s] w (PV (.bool true) w) := by
  have k1 := may_iff.1 h1
  have k2 := may_iff.1 h2
  have hm : meetB a b c d = true := by
    rw [meet_may h1 h2]
    first | rw [may_iff] | rw [may_no]
    rcases rel_cases a b c d (by omega) (by omega) with h | h | h | h | h | h | h | h | h | h | h | h | h <;> omega
  have R : Hid (rlN a b c d = relI a b c d ∧ rlE a b c d = 0 ∧ meetB a b c d = true) := ⟨(rl_yes h1 h2).1, (rl_yes h1 h2).2, hm⟩
  have R2 : Hid (rlN (a + s) (b + s) (c + s) (d + s) = relI a b c d ∧ rlE (a + s) (b + s) (c + s) (d + s) = 0) := ⟨by rw [(rl_yes (shE_zero q1).2.2.2 (shE_zero q2).2.2.2).1, rel_shift], (rl_yes (shE_zero q1).2.2.2 (shE_zero q2).2.2.2).2⟩
  have E1 := Lib.hid ((shift_back q1).1)
  have E2 := Lib.hid ((shift_back q2).1)
  generalize relI a b c d = N at *
  clear h1 h2 hm k1 k2 q1 q2
  obtain ⟨hN1, hN2⟩ := hN
  go_enter Try.func9, Try.ntmps9
  go_wp2_with fail
  have K : Below w.heap.size w ((w.alloc (.cells #[.int .i64 a, .int .i64 b] 23)).alloc (.cells #[.int .i64 c, .int .i64 d] 23)) := (((Below.refl _ _).alloc (Nat.le_refl _) _).alloc (by first | omega | (simp; done) | (simp; omega)) _)
  have bx0 : Bx ((w.alloc (.cells #[.int .i64 a, .int .i64 b] 23)).alloc (.cells #[.int .i64 c, .int .i64 d] 23)) (w.heap.size) a b := ((Bx.new' (W := w) (n := w.heap.size) (by simp) a b 23).alloc _)
  have bx1 : Bx ((w.alloc (.cells #[.int .i64 a, .int .i64 b] 23)).alloc (.cells #[.int .i64 c, .int .i64 d] 23)) (w.heap.size + 1) c d := (Bx.new' (W := (w.alloc (.cells #[.int .i64 a, .int .i64 b] 23))) (n := w.heap.size + 1) (by simp) c d 23)
  generalize ((w.alloc (.cells #[.int .i64 a, .int .i64 b] 23)).alloc (.cells #[.int .i64 c, .int .i64 d] 23)) = W1 at *
  have c0 := bx0.c0
  have d0 := bx0.c1
  have l0 := bx0.lt
  have c1 := bx1.c0
  have d1 := bx1.c1
  have l1 := bx1.lt
  refine (relate_any _ a b c d).mono ?_
  rintro e V ⟨rfl, hb⟩
  rw [R.out.1, R.out.2.1]
  clear c0 d0 l0 c1 d1 l1
  have bx0 := bx0.below hb
  have bx1 := bx1.below hb
  have K := K.trans (hb.mono K.size)
  clear hb
  generalize V = W2 at *
  have c0 := bx0.c0
  have d0 := bx0.c1
  have l0 := bx0.lt
  have c1 := bx1.c0
  have d1 := bx1.c1
  have l1 := bx1.lt
  go_wp2_with fail
  refine (meet_any _ a b c d).mono ?_
  rintro e V ⟨rfl, hb⟩
  rw [R.out.2.2]
  clear c0 d0 l0 c1 d1 l1
  have bx0 := bx0.below hb
  have bx1 := bx1.below hb
  have K := K.trans (hb.mono K.size)
  clear hb
  have bx0 := bx0.alloc (.cells #[.int .i64 (mtF a b c d), .int .i64 (mtT a b c d)] 23)
  have bx1 := bx1.alloc (.cells #[.int .i64 (mtF a b c d), .int .i64 (mtT a b c d)] 23)
  have bx2 := Bx.new V (mtF a b c d) (mtT a b c d) 23
  have K := K.alloc K.size (.cells #[.int .i64 (mtF a b c d), .int .i64 (mtT a b c d)] 23)
  have c0 := bx0.c0
  have d0 := bx0.c1
  have l0 := bx0.lt
  have c1 := bx1.c0
  have d1 := bx1.c1
  have l1 := bx1.lt
  have c2 := bx2.c0
  have d2 := bx2.c1
  have l2 := bx2.lt
  go_wp2_with fail
  clear c0 d0 l0 c1 d1 l1 c2 d2 l2
  have SZ2 := Lib.hid (show (V.alloc (.cells #[.int .i64 (mtF a b c d), .int .i64 (mtT a b c d)] 23)).heap.size = V.heap.size + 1 by simp)
  generalize (V.alloc (.cells #[.int .i64 (mtF a b c d), .int .i64 (mtT a b c d)] 23)) = W3 at *
  generalize V.heap.size = n2 at *
  have c0 := bx0.c0
  have d0 := bx0.c1
  have l0 := bx0.lt
  have c1 := bx1.c0
  have d1 := bx1.c1
  have l1 := bx1.lt
  have c2 := bx2.c0
  have d2 := bx2.c1
  have l2 := bx2.lt
  refine (shift_any _ a b s).mono ?_
  rintro e V ⟨rfl, hb⟩
  rw [E1.out.1, E1.out.2.1, E1.out.2.2.1]
  clear c0 d0 l0 c1 d1 l1 c2 d2 l2
  have bx0 := bx0.below hb
  have bx1 := bx1.below hb
  have bx2 := bx2.below hb
  have K := K.trans (hb.mono K.size)
  clear hb
  have bx0 := bx0.alloc (.cells #[.int .i64 (a + s), .int .i64 (b + s)] 23)
  have bx1 := bx1.alloc (.cells #[.int .i64 (a + s), .int .i64 (b + s)] 23)
  have bx2 := bx2.alloc (.cells #[.int .i64 (a + s), .int .i64 (b + s)] 23)
  have bx3 := Bx.new V (a + s) (b + s) 23
  have K := K.alloc K.size (.cells #[.int .i64 (a + s), .int .i64 (b + s)] 23)
  have c0 := bx0.c0
  have d0 := bx0.c1
  have l0 := bx0.lt
  have c1 := bx1.c0
  have d1 := bx1.c1
  have l1 := bx1.lt
  have c2 := bx2.c0
  have d2 := bx2.c1
  have l2 := bx2.lt
  have c3 := bx3.c0
  have d3 := bx3.c1
  have l3 := bx3.lt
  go_wp2_with fail
  clear c0 d0 l0 c1 d1 l1 c2 d2 l2 c3 d3 l3
  have SZ3 := Lib.hid (show (V.alloc (.cells #[.int .i64 (a + s), .int .i64 (b + s)] 23)).heap.size = V.heap.size + 1 by simp)
  generalize (V.alloc (.cells #[.int .i64 (a + s), .int .i64 (b + s)] 23)) = W4 at *
  generalize V.heap.size = n3 at *
  have c0 := bx0.c0
  have d0 := bx0.c1
  have l0 := bx0.lt
  have c1 := bx1.c0
  have d1 := bx1.c1
  have l1 := bx1.lt
  have c2 := bx2.c0
  have d2 := bx2.c1
  have l2 := bx2.lt
  have c3 := bx3.c0
  have d3 := bx3.c1
  have l3 := bx3.lt
  refine (shift_any _ c d s).mono ?_
  rintro e V ⟨rfl, hb⟩
  rw [E2.out.1, E2.out.2.1, E2.out.2.2.1]
  clear c0 d0 l0 c1 d1 l1 c2 d2 l2 c3 d3 l3
  have bx0 := bx0.below hb
  have bx1 := bx1.below hb
  have bx2 := bx2.below hb
  have bx3 := bx3.below hb
  have K := K.trans (hb.mono K.size)
  clear hb
  have bx0 := bx0.alloc (.cells #[.int .i64 (c + s), .int .i64 (d + s)] 23)
  have bx1 := bx1.alloc (.cells #[.int .i64 (c + s), .int .i64 (d + s)] 23)
  have bx2 := bx2.alloc (.cells #[.int .i64 (c + s), .int .i64 (d + s)] 23)
  have bx3 := bx3.alloc (.cells #[.int .i64 (c + s), .int .i64 (d + s)] 23)
  have bx4 := Bx.new V (c + s) (d + s) 23
  have K := K.alloc K.size (.cells #[.int .i64 (c + s), .int .i64 (d + s)] 23)
  have c0 := bx0.c0
  have d0 := bx0.c1
  have l0 := bx0.lt
  have c1 := bx1.c0
  have d1 := bx1.c1
  have l1 := bx1.lt
  have c2 := bx2.c0
  have d2 := bx2.c1
  have l2 := bx2.lt
  have c3 := bx3.c0
  have d3 := bx3.c1
  have l3 := bx3.lt
  have c4 := bx4.c0
  have d4 := bx4.c1
  have l4 := bx4.lt
  go_wp2_with fail
  clear c0 d0 l0 c1 d1 l1 c2 d2 l2 c3 d3 l3 c4 d4 l4
  have SZ4 := Lib.hid (show (V.alloc (.cells #[.int .i64 (c + s), .int .i64 (d + s)] 23)).heap.size = V.heap.size + 1 by simp)
  generalize (V.alloc (.cells #[.int .i64 (c + s), .int .i64 (d + s)] 23)) = W5 at *
  generalize V.heap.size = n4 at *
  have c0 := bx0.c0
  have d0 := bx0.c1
  have l0 := bx0.lt
  have c1 := bx1.c0
  have d1 := bx1.c1
  have l1 := bx1.lt
  have c2 := bx2.c0
  have d2 := bx2.c1
  have l2 := bx2.lt
  have c3 := bx3.c0
  have d3 := bx3.c1
  have l3 := bx3.lt
  have c4 := bx4.c0
  have d4 := bx4.c1
  have l4 := bx4.lt
  refine (relate_any _ (a + s) (b + s) (c + s) (d + s)).mono ?_
  rintro e V ⟨rfl, hb⟩
  rw [R2.out.1, R2.out.2]
  clear c0 d0 l0 c1 d1 l1 c2 d2 l2 c3 d3 l3 c4 d4 l4
  have bx0 := bx0.below hb
  have bx1 := bx1.below hb
  have bx2 := bx2.below hb
  have bx3 := bx3.below hb
  have bx4 := bx4.below hb
  have K := K.trans (hb.mono K.size)
  clear hb
  generalize V = W6 at *
  have c0 := bx0.c0
  have d0 := bx0.c1
  have l0 := bx0.lt
  have c1 := bx1.c0
  have d1 := bx1.c1
  have l1 := bx1.lt
  have c2 := bx2.c0
  have d2 := bx2.c1
  have l2 := bx2.lt
  have c3 := bx3.c0
  have d3 := bx3.c1
  have l3 := bx3.lt
  have c4 := bx4.c0
  have d4 := bx4.c1
  have l4 := bx4.lt
  go_wp2_with fail
  refine (live_any _).mono ?_
  rintro e V ⟨rfl, hb⟩
  clear c0 d0 l0 c1 d1 l1 c2 d2 l2 c3 d3 l3 c4 d4 l4
  have bx0 := bx0.below hb
  have bx1 := bx1.below hb
  have bx2 := bx2.below hb
  have bx3 := bx3.below hb
  have bx4 := bx4.below hb
  have K := K.trans (hb.mono K.size)
  clear hb
  generalize V = W7 at *
  have c0 := bx0.c0
  have d0 := bx0.c1
  have l0 := bx0.lt
  have c1 := bx1.c0
  have d1 := bx1.c1
  have l1 := bx1.lt
  have c2 := bx2.c0
  have d2 := bx2.c1
  have l2 := bx2.lt
  have c3 := bx3.c0
  have d3 := bx3.c1
  have l3 := bx3.lt
  have c4 := bx4.c0
  have d4 := bx4.c1
  have l4 := bx4.lt
  go_wp2_with fail
  go_ret
  exact ⟨rfl, K⟩

set_option maxHeartbeats 1000000 in
theorem shifts_hi_n1 (w : World) (a b c d s : Int) (h1 : mayB a b = true) (h2 : mayB c d = true) (hN : 12 ≤ relI a b c d) (q1 : ¬ shE a b s = 0) : Calls Try.prog 9 #[sp a b, sp c d, .int .i64 s] w (PV (.bool true) w) := by
  have k1 := may_iff.1 h1
  have k2 := may_iff.1 h2
  have hm : meetB a b c d = false := by
    rw [meet_may h1 h2]
    first | rw [may_iff] | rw [may_no]
    rcases rel_cases a b c d (by omega) (by omega) with h | h | h | h | h | h | h | h | h | h | h | h | h <;> omega
  have R : Hid (rlN a b c d = relI a b c d ∧ rlE a b c d = 0 ∧ meetB a b c d = false) := ⟨(rl_yes h1 h2).1, (rl_yes h1 h2).2, hm⟩
  have z1 : (shE a b s == 0) = false := by simpa using q1
  generalize relI a b c d = N at *
  clear h1 h2 hm k1 k2 q1
  have hN1 : ¬ N < 12 := by omega
  have hN2 : decide (N < 12) = false := by simpa using hN1
  have hN3 : 2 < N := by omega
  go_enter Try.func9, Try.ntmps9
  go_wp2_with fail
  have K : Below w.heap.size w ((w.alloc (.cells #[.int .i64 a, .int .i64 b] 23)).alloc (.cells #[.int .i64 c, .int .i64 d] 23)) := (((Below.refl _ _).alloc (Nat.le_refl _) _).alloc (by first | omega | (simp; done) | (simp; omega)) _)
  have bx0 : Bx ((w.alloc (.cells #[.int .i64 a, .int .i64 b] 23)).alloc (.cells #[.int .i64 c, .int .i64 d] 23)) (w.heap.size) a b := ((Bx.new' (W := w) (n := w.heap.size) (by simp) a b 23).alloc _)
  have bx1 : Bx ((w.alloc (.cells #[.int .i64 a, .int .i64 b] 23)).alloc (.cells #[.int .i64 c, .int .i64 d] 23)) (w.heap.size + 1) c d := (Bx.new' (W := (w.alloc (.cells #[.int .i64 a, .int .i64 b] 23))) (n := w.heap.size + 1) (by simp) c d 23)
  generalize ((w.alloc (.cells #[.int .i64 a, .int .i64 b] 23)).alloc (.cells #[.int .i64 c, .int .i64 d] 23)) = W1 at *
  have c0 := bx0.c0
  have d0 := bx0.c1
  have l0 := bx0.lt
  have c1 := bx1.c0
  have d1 := bx1.c1
  have l1 := bx1.lt
  refine (relate_any _ a b c d).mono ?_
  rintro e V ⟨rfl, hb⟩
  rw [R.out.1, R.out.2.1]
  clear c0 d0 l0 c1 d1 l1
  have bx0 := bx0.below hb
  have bx1 := bx1.below hb
  have K := K.trans (hb.mono K.size)
  clear hb
  generalize V = W2 at *
  have c0 := bx0.c0
  have d0 := bx0.c1
  have l0 := bx0.lt
  have c1 := bx1.c0
  have d1 := bx1.c1
  have l1 := bx1.lt
  go_wp2_with fail
  refine (meet_any _ a b c d).mono ?_
  rintro e V ⟨rfl, hb⟩
  rw [R.out.2.2]
  clear c0 d0 l0 c1 d1 l1
  have bx0 := bx0.below hb
  have bx1 := bx1.below hb
  have K := K.trans (hb.mono K.size)
  clear hb
  have bx0 := bx0.alloc (.cells #[.int .i64 (mtF a b c d), .int .i64 (mtT a b c d)] 23)
  have bx1 := bx1.alloc (.cells #[.int .i64 (mtF a b c d), .int .i64 (mtT a b c d)] 23)
  have bx2 := Bx.new V (mtF a b c d) (mtT a b c d) 23
  have K := K.alloc K.size (.cells #[.int .i64 (mtF a b c d), .int .i64 (mtT a b c d)] 23)
  have c0 := bx0.c0
  have d0 := bx0.c1
  have l0 := bx0.lt
  have c1 := bx1.c0
  have d1 := bx1.c1
  have l1 := bx1.lt
  have c2 := bx2.c0
  have d2 := bx2.c1
  have l2 := bx2.lt
  go_wp2_with fail
  clear c0 d0 l0 c1 d1 l1 c2 d2 l2
  have SZ2 := Lib.hid (show (V.alloc (.cells #[.int .i64 (mtF a b c d), .int .i64 (mtT a b c d)] 23)).heap.size = V.heap.size + 1 by simp)
  generalize (V.alloc (.cells #[.int .i64 (mtF a b c d), .int .i64 (mtT a b c d)] 23)) = W3 at *
  generalize V.heap.size = n2 at *
  have c0 := bx0.c0
  have d0 := bx0.c1
  have l0 := bx0.lt
  have c1 := bx1.c0
  have d1 := bx1.c1
  have l1 := bx1.lt
  have c2 := bx2.c0
  have d2 := bx2.c1
  have l2 := bx2.lt
  refine (shift_any _ a b s).mono ?_
  rintro e V ⟨rfl, hb⟩
  clear c0 d0 l0 c1 d1 l1 c2 d2 l2
  have bx0 := bx0.below hb
  have bx1 := bx1.below hb
  have bx2 := bx2.below hb
  have K := K.trans (hb.mono K.size)
  clear hb
  have bx0 := bx0.alloc (.cells #[.int .i64 (shF a b s), .int .i64 (shT a b s)] 23)
  have bx1 := bx1.alloc (.cells #[.int .i64 (shF a b s), .int .i64 (shT a b s)] 23)
  have bx2 := bx2.alloc (.cells #[.int .i64 (shF a b s), .int .i64 (shT a b s)] 23)
  have bx3 := Bx.new V (shF a b s) (shT a b s) 23
  have K := K.alloc K.size (.cells #[.int .i64 (shF a b s), .int .i64 (shT a b s)] 23)
  have c0 := bx0.c0
  have d0 := bx0.c1
  have l0 := bx0.lt
  have c1 := bx1.c0
  have d1 := bx1.c1
  have l1 := bx1.lt
  have c2 := bx2.c0
  have d2 := bx2.c1
  have l2 := bx2.lt
  have c3 := bx3.c0
  have d3 := bx3.c1
  have l3 := bx3.lt
  go_wp2_with fail
  clear c0 d0 l0 c1 d1 l1 c2 d2 l2 c3 d3 l3
  have SZ3 := Lib.hid (show (V.alloc (.cells #[.int .i64 (shF a b s), .int .i64 (shT a b s)] 23)).heap.size = V.heap.size + 1 by simp)
  generalize (V.alloc (.cells #[.int .i64 (shF a b s), .int .i64 (shT a b s)] 23)) = W4 at *
  generalize V.heap.size = n3 at *
  have c0 := bx0.c0
  have d0 := bx0.c1
  have l0 := bx0.lt
  have c1 := bx1.c0
  have d1 := bx1.c1
  have l1 := bx1.lt
  have c2 := bx2.c0
  have d2 := bx2.c1
  have l2 := bx2.lt
  have c3 := bx3.c0
  have d3 := bx3.c1
  have l3 := bx3.lt
  refine (shift_any _ c d s).mono ?_
  rintro e V ⟨rfl, hb⟩
  clear c0 d0 l0 c1 d1 l1 c2 d2 l2 c3 d3 l3
  have bx0 := bx0.below hb
  have bx1 := bx1.below hb
  have bx2 := bx2.below hb
  have bx3 := bx3.below hb
  have K := K.trans (hb.mono K.size)
  clear hb
  have bx0 := bx0.alloc (.cells #[.int .i64 (shF c d s), .int .i64 (shT c d s)] 23)
  have bx1 := bx1.alloc (.cells #[.int .i64 (shF c d s), .int .i64 (shT c d s)] 23)
  have bx2 := bx2.alloc (.cells #[.int .i64 (shF c d s), .int .i64 (shT c d s)] 23)
  have bx3 := bx3.alloc (.cells #[.int .i64 (shF c d s), .int .i64 (shT c d s)] 23)
  have bx4 := Bx.new V (shF c d s) (shT c d s) 23
  have K := K.alloc K.size (.cells #[.int .i64 (shF c d s), .int .i64 (shT c d s)] 23)
  have c0 := bx0.c0
  have d0 := bx0.c1
  have l0 := bx0.lt
  have c1 := bx1.c0
  have d1 := bx1.c1
  have l1 := bx1.lt
  have c2 := bx2.c0
  have d2 := bx2.c1
  have l2 := bx2.lt
  have c3 := bx3.c0
  have d3 := bx3.c1
  have l3 := bx3.lt
  have c4 := bx4.c0
  have d4 := bx4.c1
  have l4 := bx4.lt
  go_wp2_with fail
  clear c0 d0 l0 c1 d1 l1 c2 d2 l2 c3 d3 l3 c4 d4 l4
  have SZ4 := Lib.hid (show (V.alloc (.cells #[.int .i64 (shF c d s), .int .i64 (shT c d s)] 23)).heap.size = V.heap.size + 1 by simp)
  generalize (V.alloc (.cells #[.int .i64 (shF c d s), .int .i64 (shT c d s)] 23)) = W5 at *
  generalize V.heap.size = n4 at *
  have c0 := bx0.c0
  have d0 := bx0.c1
  have l0 := bx0.lt
  have c1 := bx1.c0
  have d1 := bx1.c1
  have l1 := bx1.lt
  have c2 := bx2.c0
  have d2 := bx2.c1
  have l2 := bx2.lt
  have c3 := bx3.c0
  have d3 := bx3.c1
  have l3 := bx3.lt
  have c4 := bx4.c0
  have d4 := bx4.c1
  have l4 := bx4.lt
  refine (live_any _).mono ?_
  rintro e V ⟨rfl, hb⟩
  clear c0 d0 l0 c1 d1 l1 c2 d2 l2 c3 d3 l3 c4 d4 l4
  have bx0 := bx0.below hb
  have bx1 := bx1.below hb
  have bx2 := bx2.below hb
  have bx3 := bx3.below hb
  have bx4 := bx4.below hb
  have K := K.trans (hb.mono K.size)
  clear hb
  generalize V = W6 at *
  have c0 := bx0.c0
  have d0 := bx0.c1
  have l0 := bx0.lt
  have c1 := bx1.c0
  have d1 := bx1.c1
  have l1 := bx1.lt
  have c2 := bx2.c0
  have d2 := bx2.c1
  have l2 := bx2.lt
  have c3 := bx3.c0
  have d3 := bx3.c1
  have l3 := bx3.lt
  have c4 := bx4.c0
  have d4 := bx4.c1
  have l4 := bx4.lt
  go_wp2_with fail
  go_ret
  exact ⟨rfl, K⟩

set_option maxHeartbeats 1000000 in
theorem shifts_hi_n2 (w : World) (a b c d s : Int) (h1 : mayB a b = true) (h2 : mayB c d = true) (hN : 12 ≤ relI a b c d) (q1 : shE a b s = 0) (q2 : ¬ shE c d s = 0) : Calls Try.prog 9 #[sp a b, sp c d, .int .i64 s] w (PV (.bool true) w) := by
  have k1 := may_iff.1 h1
  have k2 := may_iff.1 h2
  have hm : meetB a b c d = false := by
    rw [meet_may h1 h2]
    first | rw [may_iff] | rw [may_no]
    rcases rel_cases a b c d (by omega) (by omega) with h | h | h | h | h | h | h | h | h | h | h | h | h <;> omega
  have R : Hid (rlN a b c d = relI a b c d ∧ rlE a b c d = 0 ∧ meetB a b c d = false) := ⟨(rl_yes h1 h2).1, (rl_yes h1 h2).2, hm⟩
  have E1 := Lib.hid ((shift_back q1).1)
  have z2 : (shE c d s == 0) = false := by simpa using q2
  generalize relI a b c d = N at *
  clear h1 h2 hm k1 k2 q1 q2
  have hN1 : ¬ N < 12 := by omega
  have hN2 : decide (N < 12) = false := by simpa using hN1
  have hN3 : 2 < N := by omega
  go_enter Try.func9, Try.ntmps9
  go_wp2_with fail
  have K : Below w.heap.size w ((w.alloc (.cells #[.int .i64 a, .int .i64 b] 23)).alloc (.cells #[.int .i64 c, .int .i64 d] 23)) := (((Below.refl _ _).alloc (Nat.le_refl _) _).alloc (by first | omega | (simp; done) | (simp; omega)) _)
  have bx0 : Bx ((w.alloc (.cells #[.int .i64 a, .int .i64 b] 23)).alloc (.cells #[.int .i64 c, .int .i64 d] 23)) (w.heap.size) a b := ((Bx.new' (W := w) (n := w.heap.size) (by simp) a b 23).alloc _)
  have bx1 : Bx ((w.alloc (.cells #[.int .i64 a, .int .i64 b] 23)).alloc (.cells #[.int .i64 c, .int .i64 d] 23)) (w.heap.size + 1) c d := (Bx.new' (W := (w.alloc (.cells #[.int .i64 a, .int .i64 b] 23))) (n := w.heap.size + 1) (by simp) c d 23)
  generalize ((w.alloc (.cells #[.int .i64 a, .int .i64 b] 23)).alloc (.cells #[.int .i64 c, .int .i64 d] 23)) = W1 at *
  have c0 := bx0.c0
  have d0 := bx0.c1
  have l0 := bx0.lt
  have c1 := bx1.c0
  have d1 := bx1.c1
  have l1 := bx1.lt
  refine (relate_any _ a b c d).mono ?_
  rintro e V ⟨rfl, hb⟩
  rw [R.out.1, R.out.2.1]
  clear c0 d0 l0 c1 d1 l1
  have bx0 := bx0.below hb
  have bx1 := bx1.below hb
  have K := K.trans (hb.mono K.size)
  clear hb
  generalize V = W2 at *
  have c0 := bx0.c0
  have d0 := bx0.c1
  have l0 := bx0.lt
  have c1 := bx1.c0
  have d1 := bx1.c1
  have l1 := bx1.lt
  go_wp2_with fail
  refine (meet_any _ a b c d).mono ?_
  rintro e V ⟨rfl, hb⟩
  rw [R.out.2.2]
  clear c0 d0 l0 c1 d1 l1
  have bx0 := bx0.below hb
  have bx1 := bx1.below hb
  have K := K.trans (hb.mono K.size)
  clear hb
  have bx0 := bx0.alloc (.cells #[.int .i64 (mtF a b c d), .int .i64 (mtT a b c d)] 23)
  have bx1 := bx1.alloc (.cells #[.int .i64 (mtF a b c d), .int .i64 (mtT a b c d)] 23)
  have bx2 := Bx.new V (mtF a b c d) (mtT a b c d) 23
  have K := K.alloc K.size (.cells #[.int .i64 (mtF a b c d), .int .i64 (mtT a b c d)] 23)
  have c0 := bx0.c0
  have d0 := bx0.c1
  have l0 := bx0.lt
  have c1 := bx1.c0
  have d1 := bx1.c1
  have l1 := bx1.lt
  have c2 := bx2.c0
  have d2 := bx2.c1
  have l2 := bx2.lt
  go_wp2_with fail
  clear c0 d0 l0 c1 d1 l1 c2 d2 l2
  have SZ2 := Lib.hid (show (V.alloc (.cells #[.int .i64 (mtF a b c d), .int .i64 (mtT a b c d)] 23)).heap.size = V.heap.size + 1 by simp)
  generalize (V.alloc (.cells #[.int .i64 (mtF a b c d), .int .i64 (mtT a b c d)] 23)) = W3 at *
  generalize V.heap.size = n2 at *
  have c0 := bx0.c0
  have d0 := bx0.c1
  have l0 := bx0.lt
  have c1 := bx1.c0
  have d1 := bx1.c1
  have l1 := bx1.lt
  have c2 := bx2.c0
  have d2 := bx2.c1
  have l2 := bx2.lt
  refine (shift_any _ a b s).mono ?_
  rintro e V ⟨rfl, hb⟩
  rw [E1.out.1, E1.out.2.1, E1.out.2.2.1]
  clear c0 d0 l0 c1 d1 l1 c2 d2 l2
  have bx0 := bx0.below hb
  have bx1 := bx1.below hb
  have bx2 := bx2.below hb
  have K := K.trans (hb.mono K.size)
  clear hb
  have bx0 := bx0.alloc (.cells #[.int .i64 (a + s), .int .i64 (b + s)] 23)
  have bx1 := bx1.alloc (.cells #[.int .i64 (a + s), .int .i64 (b + s)] 23)
  have bx2 := bx2.alloc (.cells #[.int .i64 (a + s), .int .i64 (b + s)] 23)
  have bx3 := Bx.new V (a + s) (b + s) 23
  have K := K.alloc K.size (.cells #[.int .i64 (a + s), .int .i64 (b + s)] 23)
  have c0 := bx0.c0
  have d0 := bx0.c1
  have l0 := bx0.lt
  have c1 := bx1.c0
  have d1 := bx1.c1
  have l1 := bx1.lt
  have c2 := bx2.c0
  have d2 := bx2.c1
  have l2 := bx2.lt
  have c3 := bx3.c0
  have d3 := bx3.c1
  have l3 := bx3.lt
  go_wp2_with fail
  clear c0 d0 l0 c1 d1 l1 c2 d2 l2 c3 d3 l3
  have SZ3 := Lib.hid (show (V.alloc (.cells #[.int .i64 (a + s), .int .i64 (b + s)] 23)).heap.size = V.heap.size + 1 by simp)
  generalize (V.alloc (.cells #[.int .i64 (a + s), .int .i64 (b + s)] 23)) = W4 at *
  generalize V.heap.size = n3 at *
  have c0 := bx0.c0
  have d0 := bx0.c1
  have l0 := bx0.lt
  have c1 := bx1.c0
  have d1 := bx1.c1
  have l1 := bx1.lt
  have c2 := bx2.c0
  have d2 := bx2.c1
  have l2 := bx2.lt
  have c3 := bx3.c0
  have d3 := bx3.c1
  have l3 := bx3.lt
  refine (shift_any _ c d s).mono ?_
  rintro e V ⟨rfl, hb⟩
  clear c0 d0 l0 c1 d1 l1 c2 d2 l2 c3 d3 l3
  have bx0 := bx0.below hb
  have bx1 := bx1.below hb
  have bx2 := bx2.below hb
  have bx3 := bx3.below hb
  have K := K.trans (hb.mono K.size)
  clear hb
  have bx0 := bx0.alloc (.cells #[.int .i64 (shF c d s), .int .i64 (shT c d s)] 23)
  have bx1 := bx1.alloc (.cells #[.int .i64 (shF c d s), .int .i64 (shT c d s)] 23)
  have bx2 := bx2.alloc (.cells #[.int .i64 (shF c d s), .int .i64 (shT c d s)] 23)
  have bx3 := bx3.alloc (.cells #[.int .i64 (shF c d s), .int .i64 (shT c d s)] 23)
  have bx4 := Bx.new V (shF c d s) (shT c d s) 23
  have K := K.alloc K.size (.cells #[.int .i64 (shF c d s), .int .i64 (shT c d s)] 23)
  have c0 := bx0.c0
  have d0 := bx0.c1
  have l0 := bx0.lt
  have c1 := bx1.c0
  have d1 := bx1.c1
  have l1 := bx1.lt
  have c2 := bx2.c0
  have d2 := bx2.c1
  have l2 := bx2.lt
  have c3 := bx3.c0
  have d3 := bx3.c1
  have l3 := bx3.lt
  have c4 := bx4.c0
  have d4 := bx4.c1
  have l4 := bx4.lt
  go_wp2_with fail
  clear c0 d0 l0 c1 d1 l1 c2 d2 l2 c3 d3 l3 c4 d4 l4
  have SZ4 := Lib.hid (show (V.alloc (.cells #[.int .i64 (shF c d s), .int .i64 (shT c d s)] 23)).heap.size = V.heap.size + 1 by simp)
  generalize (V.alloc (.cells #[.int .i64 (shF c d s), .int .i64 (shT c d s)] 23)) = W5 at *
  generalize V.heap.size = n4 at *
  have c0 := bx0.c0
  have d0 := bx0.c1
  have l0 := bx0.lt
  have c1 := bx1.c0
  have d1 := bx1.c1
  have l1 := bx1.lt
  have c2 := bx2.c0
  have d2 := bx2.c1
  have l2 := bx2.lt
  have c3 := bx3.c0
  have d3 := bx3.c1
  have l3 := bx3.lt
  have c4 := bx4.c0
  have d4 := bx4.c1
  have l4 := bx4.lt
  refine (live_any _).mono ?_
  rintro e V ⟨rfl, hb⟩
  clear c0 d0 l0 c1 d1 l1 c2 d2 l2 c3 d3 l3 c4 d4 l4
  have bx0 := bx0.below hb
  have bx1 := bx1.below hb
  have bx2 := bx2.below hb
  have bx3 := bx3.below hb
  have bx4 := bx4.below hb
  have K := K.trans (hb.mono K.size)
  clear hb
  generalize V = W6 at *
  have c0 := bx0.c0
  have d0 := bx0.c1
  have l0 := bx0.lt
  have c1 := bx1.c0
  have d1 := bx1.c1
  have l1 := bx1.lt
  have c2 := bx2.c0
  have d2 := bx2.c1
  have l2 := bx2.lt
  have c3 := bx3.c0
  have d3 := bx3.c1
  have l3 := bx3.lt
  have c4 := bx4.c0
  have d4 := bx4.c1
  have l4 := bx4.lt
  go_wp2_with fail
  go_ret
  exact ⟨rfl, K⟩

set_option maxHeartbeats 1000000 in
theorem shifts_hi_y (w : World) (a b c d s : Int) (h1 : mayB a b = true) (h2 : mayB c d = true) (hN : 12 ≤ relI a b c d) (q1 : shE a b s = 0) (q2 : shE c d s = 0) : Calls Try.prog 9 #[sp a b, sp c d, .int .i64 s] w (PV (.bool true) w) := by
  have k1 := may_iff.1 h1
  have k2 := may_iff.1 h2
  have hm : meetB a b c d = false := by
    rw [meet_may h1 h2]
    first | rw [may_iff] | rw [may_no]
    rcases rel_cases a b c d (by omega) (by omega) with h | h | h | h | h | h | h | h | h | h | h | h | h <;> omega
  have R : Hid (rlN a b c d = relI a b c d ∧ rlE a b c d = 0 ∧ meetB a b c d = false) := ⟨(rl_yes h1 h2).1, (rl_yes h1 h2).2, hm⟩
  have R2 : Hid (rlN (a + s) (b + s) (c + s) (d + s) = relI a b c d ∧ rlE (a + s) (b + s) (c + s) (d + s) = 0) := ⟨by rw [(rl_yes (shE_zero q1).2.2.2 (shE_zero q2).2.2.2).1, rel_shift], (rl_yes (shE_zero q1).2.2.2 (shE_zero q2).2.2.2).2⟩
  have E1 := Lib.hid ((shift_back q1).1)
  have E2 := Lib.hid ((shift_back q2).1)
  generalize relI a b c d = N at *
  clear h1 h2 hm k1 k2 q1 q2
  have hN1 : ¬ N < 12 := by omega
  have hN2 : decide (N < 12) = false := by simpa using hN1
  have hN3 : 2 < N := by omega
  go_enter Try.func9, Try.ntmps9
  go_wp2_with fail
  have K : Below w.heap.size w ((w.alloc (.cells #[.int .i64 a, .int .i64 b] 23)).alloc (.cells #[.int .i64 c, .int .i64 d] 23)) := (((Below.refl _ _).alloc (Nat.le_refl _) _).alloc (by first | omega | (simp; done) | (simp; omega)) _)
  have bx0 : Bx ((w.alloc (.cells #[.int .i64 a, .int .i64 b] 23)).alloc (.cells #[.int .i64 c, .int .i64 d] 23)) (w.heap.size) a b := ((Bx.new' (W := w) (n := w.heap.size) (by simp) a b 23).alloc _)
  have bx1 : Bx ((w.alloc (.cells #[.int .i64 a, .int .i64 b] 23)).alloc (.cells #[.int .i64 c, .int .i64 d] 23)) (w.heap.size + 1) c d := (Bx.new' (W := (w.alloc (.cells #[.int .i64 a, .int .i64 b] 23))) (n := w.heap.size + 1) (by simp) c d 23)
  generalize ((w.alloc (.cells #[.int .i64 a, .int .i64 b] 23)).alloc (.cells #[.int .i64 c, .int .i64 d] 23)) = W1 at *
  have c0 := bx0.c0
  have d0 := bx0.c1
  have l0 := bx0.lt
  have c1 := bx1.c0
  have d1 := bx1.c1
  have l1 := bx1.lt
  refine (relate_any _ a b c d).mono ?_
  rintro e V ⟨rfl, hb⟩
  rw [R.out.1, R.out.2.1]
  clear c0 d0 l0 c1 d1 l1
  have bx0 := bx0.below hb
  have bx1 := bx1.below hb
  have K := K.trans (hb.mono K.size)
  clear hb
  generalize V = W2 at *
  have c0 := bx0.c0
  have d0 := bx0.c1
  have l0 := bx0.lt
  have c1 := bx1.c0
  have d1 := bx1.c1
  have l1 := bx1.lt
  go_wp2_with fail
  refine (meet_any _ a b c d).mono ?_
  rintro e V ⟨rfl, hb⟩
  rw [R.out.2.2]
  clear c0 d0 l0 c1 d1 l1
  have bx0 := bx0.below hb
  have bx1 := bx1.below hb
  have K := K.trans (hb.mono K.size)
  clear hb
  have bx0 := bx0.alloc (.cells #[.int .i64 (mtF a b c d), .int .i64 (mtT a b c d)] 23)
  have bx1 := bx1.alloc (.cells #[.int .i64 (mtF a b c d), .int .i64 (mtT a b c d)] 23)
  have bx2 := Bx.new V (mtF a b c d) (mtT a b c d) 23
  have K := K.alloc K.size (.cells #[.int .i64 (mtF a b c d), .int .i64 (mtT a b c d)] 23)
  have c0 := bx0.c0
  have d0 := bx0.c1
  have l0 := bx0.lt
  have c1 := bx1.c0
  have d1 := bx1.c1
  have l1 := bx1.lt
  have c2 := bx2.c0
  have d2 := bx2.c1
  have l2 := bx2.lt
  go_wp2_with fail
  clear c0 d0 l0 c1 d1 l1 c2 d2 l2
  have SZ2 := Lib.hid (show (V.alloc (.cells #[.int .i64 (mtF a b c d), .int .i64 (mtT a b c d)] 23)).heap.size = V.heap.size + 1 by simp)
  generalize (V.alloc (.cells #[.int .i64 (mtF a b c d), .int .i64 (mtT a b c d)] 23)) = W3 at *
  generalize V.heap.size = n2 at *
  have c0 := bx0.c0
  have d0 := bx0.c1
  have l0 := bx0.lt
  have c1 := bx1.c0
  have d1 := bx1.c1
  have l1 := bx1.lt
  have c2 := bx2.c0
  have d2 := bx2.c1
  have l2 := bx2.lt
  refine (shift_any _ a b s).mono ?_
  rintro e V ⟨rfl, hb⟩
  rw [E1.out.1, E1.out.2.1, E1.out.2.2.1]
  clear c0 d0 l0 c1 d1 l1 c2 d2 l2
  have bx0 := bx0.below hb
  have bx1 := bx1.below hb
  have bx2 := bx2.below hb
  have K := K.trans (hb.mono K.size)
  clear hb
  have bx0 := bx0.alloc (.cells #[.int .i64 (a + s), .int .i64 (b + s)] 23)
  have bx1 := bx1.alloc (.cells #[.int .i64 (a + s), .int .i64 (b + s)] 23)
  have bx2 := bx2.alloc (.cells #[.int .i64 (a + s), .int .i64 (b + s)] 23)
  have bx3 := Bx.new V (a + s) (b + s) 23
  have K := K.alloc K.size (.cells #[.int .i64 (a + s), .int .i64 (b + s)] 23)
  have c0 := bx0.c0
  have d0 := bx0.c1
  have l0 := bx0.lt
  have c1 := bx1.c0
  have d1 := bx1.c1
  have l1 := bx1.lt
  have c2 := bx2.c0
  have d2 := bx2.c1
  have l2 := bx2.lt
  have c3 := bx3.c0
  have d3 := bx3.c1
  have l3 := bx3.lt
  go_wp2_with fail
  clear c0 d0 l0 c1 d1 l1 c2 d2 l2 c3 d3 l3
  have SZ3 := Lib.hid (show (V.alloc (.cells #[.int .i64 (a + s), .int .i64 (b + s)] 23)).heap.size = V.heap.size + 1 by simp)
  generalize (V.alloc (.cells #[.int .i64 (a + s), .int .i64 (b + s)] 23)) = W4 at *
  generalize V.heap.size = n3 at *
  have c0 := bx0.c0
  have d0 := bx0.c1
  have l0 := bx0.lt
  have c1 := bx1.c0
  have d1 := bx1.c1
  have l1 := bx1.lt
  have c2 := bx2.c0
  have d2 := bx2.c1
  have l2 := bx2.lt
  have c3 := bx3.c0
  have d3 := bx3.c1
  have l3 := bx3.lt
  refine (shift_any _ c d s).mono ?_
  rintro e V ⟨rfl, hb⟩
  rw [E2.out.1, E2.out.2.1, E2.out.2.2.1]
  clear c0 d0 l0 c1 d1 l1 c2 d2 l2 c3 d3 l3
  have bx0 := bx0.below hb
  have bx1 := bx1.below hb
  have bx2 := bx2.below hb
  have bx3 := bx3.below hb
  have K := K.trans (hb.mono K.size)
  clear hb
  have bx0 := bx0.alloc (.cells #[.int .i64 (c + s), .int .i64 (d + s)] 23)
  have bx1 := bx1.alloc (.cells #[.int .i64 (c + s), .int .i64 (d + s)] 23)
  have bx2 := bx2.alloc (.cells #[.int .i64 (c + s), .int .i64 (d + s)] 23)
  have bx3 := bx3.alloc (.cells #[.int .i64 (c + s), .int .i64 (d + s)] 23)
  have bx4 := Bx.new V (c + s) (d + s) 23
  have K := K.alloc K.size (.cells #[.int .i64 (c + s), .int .i64 (d + s)] 23)
  have c0 := bx0.c0
  have d0 := bx0.c1
  have l0 := bx0.lt
  have c1 := bx1.c0
  have d1 := bx1.c1
  have l1 := bx1.lt
  have c2 := bx2.c0
  have d2 := bx2.c1
  have l2 := bx2.lt
  have c3 := bx3.c0
  have d3 := bx3.c1
  have l3 := bx3.lt
  have c4 := bx4.c0
  have d4 := bx4.c1
  have l4 := bx4.lt
  go_wp2_with fail
  clear c0 d0 l0 c1 d1 l1 c2 d2 l2 c3 d3 l3 c4 d4 l4
  have SZ4 := Lib.hid (show (V.alloc (.cells #[.int .i64 (c + s), .int .i64 (d + s)] 23)).heap.size = V.heap.size + 1 by simp)
  generalize (V.alloc (.cells #[.int .i64 (c + s), .int .i64 (d + s)] 23)) = W5 at *
  generalize V.heap.size = n4 at *
  have c0 := bx0.c0
  have d0 := bx0.c1
  have l0 := bx0.lt
  have c1 := bx1.c0
  have d1 := bx1.c1
  have l1 := bx1.lt
  have c2 := bx2.c0
  have d2 := bx2.c1
  have l2 := bx2.lt
  have c3 := bx3.c0
  have d3 := bx3.c1
  have l3 := bx3.lt
  have c4 := bx4.c0
  have d4 := bx4.c1
  have l4 := bx4.lt
  refine (relate_any _ (a + s) (b + s) (c + s) (d + s)).mono ?_
  rintro e V ⟨rfl, hb⟩
  rw [R2.out.1, R2.out.2]
  clear c0 d0 l0 c1 d1 l1 c2 d2 l2 c3 d3 l3 c4 d4 l4
  have bx0 := bx0.below hb
  have bx1 := bx1.below hb
  have bx2 := bx2.below hb
  have bx3 := bx3.below hb
  have bx4 := bx4.below hb
  have K := K.trans (hb.mono K.size)
  clear hb
  generalize V = W6 at *
  have c0 := bx0.c0
  have d0 := bx0.c1
  have l0 := bx0.lt
  have c1 := bx1.c0
  have d1 := bx1.c1
  have l1 := bx1.lt
  have c2 := bx2.c0
  have d2 := bx2.c1
  have l2 := bx2.lt
  have c3 := bx3.c0
  have d3 := bx3.c1
  have l3 := bx3.lt
  have c4 := bx4.c0
  have d4 := bx4.c1
  have l4 := bx4.lt
  go_wp2_with fail
  refine (live_any _).mono ?_
  rintro e V ⟨rfl, hb⟩
  clear c0 d0 l0 c1 d1 l1 c2 d2 l2 c3 d3 l3 c4 d4 l4
  have bx0 := bx0.below hb
  have bx1 := bx1.below hb
  have bx2 := bx2.below hb
  have bx3 := bx3.below hb
  have bx4 := bx4.below hb
  have K := K.trans (hb.mono K.size)
  clear hb
  generalize V = W7 at *
  have c0 := bx0.c0
  have d0 := bx0.c1
  have l0 := bx0.lt
  have c1 := bx1.c0
  have d1 := bx1.c1
  have l1 := bx1.lt
  have c2 := bx2.c0
  have d2 := bx2.c1
  have l2 := bx2.lt
  have c3 := bx3.c0
  have d3 := bx3.c1
  have l3 := bx3.lt
  have c4 := bx4.c0
  have d4 := bx4.c1
  have l4 := bx4.lt
  go_wp2_with fail
  go_ret
  exact ⟨rfl, K⟩

theorem shifts_law (w : World) (a b c d s : Int) : Calls Try.prog 9 #[sp a b, sp c d, .int .i64 s] w (PV (.bool true) w) := by
  cases h1 : mayB a b with
  | false => exact shifts_no w a b c d s (.inl h1)
  | true =>
    cases h2 : mayB c d with
    | false => exact shifts_no w a b c d s (.inr h2)
    | true =>
      by_cases q1 : shE a b s = 0
      · by_cases q2 : shE c d s = 0
        · by_cases l1 : relI a b c d ≤ 2
          · exact shifts_lo_y w a b c d s h1 h2 l1 q1 q2
          · by_cases l2 : relI a b c d < 12
            · exact shifts_mid_y w a b c d s h1 h2 ⟨by omega, l2⟩ q1 q2
            · exact shifts_hi_y w a b c d s h1 h2 (by omega) q1 q2
        · by_cases l1 : relI a b c d ≤ 2
          · exact shifts_lo_n2 w a b c d s h1 h2 l1 q1 q2
          · by_cases l2 : relI a b c d < 12
            · exact shifts_mid_n2 w a b c d s h1 h2 ⟨by omega, l2⟩ q1 q2
            · exact shifts_hi_n2 w a b c d s h1 h2 (by omega) q1 q2
      · by_cases l1 : relI a b c d ≤ 2
        · exact shifts_lo_n1 w a b c d s h1 h2 l1 q1
        · by_cases l2 : relI a b c d < 12
          · exact shifts_mid_n1 w a b c d s h1 h2 ⟨by omega, l2⟩ q1
          · exact shifts_hi_n1 w a b c d s h1 h2 (by omega) q1

end Go.Proofs.Ytghlkpaadahpaaa
