/- The walks of SpanMeets, SpanMoves, SpanMirrors, SpanShifts. -/
import Derived.Test.YtghlkpaadahpaaaH
import Derived.Test.YtghlkpaadahpaaaI
import Derived.Test.YtghlkpaadahpaaaN
import Derived.Test.YtghlkpaadahpaaaC
namespace Go.Proofs.Ytghlkpaadahpaaa
open Go.RowKit Fl

theorem shE_zero {a b n : Int} (h : shE a b n = 0) : mayB a b = true ∧ -1125899906842624 ≤ n ∧ n ≤ 1125899906842624 ∧ mayB (a + n) (b + n) = true := by
  unfold shE at h
  split at h
  · omega
  · rename_i h1
    split at h
    · omega
    · rename_i h2
      split at h
      · omega
      · rename_i h3
        exact ⟨by simpa using h1, by omega, by omega, by simpa using h3⟩
theorem shE_of {a b n : Int} (h1 : mayB a b = true) (h2 : -1125899906842624 ≤ n ∧ n ≤ 1125899906842624) (h3 : mayB (a + n) (b + n) = true) : shE a b n = 0 := by
  unfold shE
  rw [if_neg (by simp [h1]), if_neg (by omega), if_neg (by simp [h3])]
theorem miE_zero {a b n : Int} (h : miE a b n = 0) : mayB a b = true ∧ 0 ≤ n ∧ n ≤ 2251799813685248 ∧ mayB (n - b) (n - a) = true := by
  unfold miE at h
  split at h
  · omega
  · rename_i h1
    split at h
    · omega
    · rename_i h2
      split at h
      · omega
      · rename_i h3
        exact ⟨by simpa using h1, by omega, by omega, by simpa using h3⟩
theorem miE_of {a b n : Int} (h1 : mayB a b = true) (h2 : 0 ≤ n ∧ n ≤ 2251799813685248) (h3 : mayB (n - b) (n - a) = true) : miE a b n = 0 := by
  unfold miE
  rw [if_neg (by simp [h1]), if_neg (by omega), if_neg (by simp [h3])]
theorem shift_back {a b n : Int} (h : shE a b n = 0) : (shF a b n = a + n ∧ shT a b n = b + n ∧ shE a b n = 0 ∧ shF (a + n) (b + n) (-n) = a ∧ shT (a + n) (b + n) (-n) = b ∧ shE (a + n) (b + n) (-n) = 0) ∧ -1125899906842624 ≤ n ∧ n ≤ 1125899906842624 := by
  obtain ⟨h1, h2, h3, h4⟩ := shE_zero h
  have e1 : a + n + -n = a := by omega
  have e2 : b + n + -n = b := by omega
  have hb : shE (a + n) (b + n) (-n) = 0 := shE_of h4 (by omega) (by rw [e1, e2]; exact h1)
  refine ⟨⟨by simp [shF, h], by simp [shT, h], h, ?_, ?_, hb⟩, h2, h3⟩
  · simp only [shF, hb, if_true]; exact e1
  · simp only [shT, hb, if_true]; exact e2
theorem mirror_back {a b n : Int} (h : miE a b n = 0) : miF a b n = n - b ∧ miT a b n = n - a ∧ miE a b n = 0 ∧ miF (n - b) (n - a) n = a ∧ miT (n - b) (n - a) n = b ∧ miE (n - b) (n - a) n = 0 := by
  obtain ⟨h1, h2, h3, h4⟩ := miE_zero h
  have e1 : n - (n - a) = a := by omega
  have e2 : n - (n - b) = b := by omega
  have hb : miE (n - b) (n - a) n = 0 := miE_of h4 (by omega) (by rw [e1, e2]; exact h1)
  refine ⟨by simp [miF, h], by simp [miT, h], h, ?_, ?_, hb⟩
  · simp only [miF, hb, if_true]; exact e1
  · simp only [miT, hb, if_true]; exact e2

set_option maxHeartbeats 1000000 in
theorem meets_law (w : World) (a b c d t : Int) : Calls Try.prog 6 #[sp a b, sp c d, .int .i64 t] w (PV (.bool true) w) := by
  go_enter Try.func6, Try.ntmps6
  go_wp2_with fail
  have K : Below w.heap.size w ((w.alloc (.cells #[.int .i64 a, .int .i64 b] 23)).alloc (.cells #[.int .i64 c, .int .i64 d] 23)) := (((Below.refl _ _).alloc (Nat.le_refl _) _).alloc (by first | omega | (simp; done) | (simp; omega)) _)
  have bx0 : Bx ((w.alloc (.cells #[.int .i64 a, .int .i64 b] 23)).alloc (.cells #[.int .i64 c, .int .i64 d] 23)) (w.heap.size) a b := ((Bx.new' (W := w) (n := w.heap.size) (by simp) a b 23).alloc _)
  have bx1 : Bx ((w.alloc (.cells #[.int .i64 a, .int .i64 b] 23)).alloc (.cells #[.int .i64 c, .int .i64 d] 23)) (w.heap.size + 1) c d := (Bx.new' (W := (w.alloc (.cells #[.int .i64 a, .int .i64 b] 23))) (n := w.heap.size + 1) (by simp) c d 23)
  generalize ((w.alloc (.cells #[.int .i64 a, .int .i64 b] 23)).alloc (.cells #[.int .i64 c, .int .i64 d] 23)) = W1 at *
  have c0 := bx0.c0
  have d0 := bx0.c1
  have l0 := bx0.lt
  have c1 := bx1.c0
  have d1 := bx1.c1
  have l1 := bx1.lt
  refine (meet_any _ a b c d).mono ?_
  rintro e V ⟨rfl, hb⟩
  clear c0 d0 l0 c1 d1 l1
  have bx0 := bx0.below hb
  have bx1 := bx1.below hb
  have K := K.trans (hb.mono K.size)
  clear hb
  have bx0 := bx0.alloc (.cells #[.int .i64 (mtF a b c d), .int .i64 (mtT a b c d)] 23)
  have bx1 := bx1.alloc (.cells #[.int .i64 (mtF a b c d), .int .i64 (mtT a b c d)] 23)
  have bx2 := Bx.new V (mtF a b c d) (mtT a b c d) 23
  have K := K.alloc K.size (.cells #[.int .i64 (mtF a b c d), .int .i64 (mtT a b c d)] 23)
  have c0 := bx0.c0
  have d0 := bx0.c1
  have l0 := bx0.lt
  have c1 := bx1.c0
  have d1 := bx1.c1
  have l1 := bx1.lt
  have c2 := bx2.c0
  have d2 := bx2.c1
  have l2 := bx2.lt
  go_wp2_with fail
  clear c0 d0 l0 c1 d1 l1 c2 d2 l2
  have SZ2 := Lib.hid (show (V.alloc (.cells #[.int .i64 (mtF a b c d), .int .i64 (mtT a b c d)] 23)).heap.size = V.heap.size + 1 by simp)
  generalize (V.alloc (.cells #[.int .i64 (mtF a b c d), .int .i64 (mtT a b c d)] 23)) = W2 at *
  generalize V.heap.size = n2 at *
  have c0 := bx0.c0
  have d0 := bx0.c1
  have l0 := bx0.lt
  have c1 := bx1.c0
  have d1 := bx1.c1
  have l1 := bx1.lt
  have c2 := bx2.c0
  have d2 := bx2.c1
  have l2 := bx2.lt
  refine (rmeet_any _ a b c d).mono ?_
  rintro e V ⟨rfl, hb⟩
  clear c0 d0 l0 c1 d1 l1 c2 d2 l2
  have bx0 := bx0.below hb
  have bx1 := bx1.below hb
  have bx2 := bx2.below hb
  have K := K.trans (hb.mono K.size)
  clear hb
  have bx0 := bx0.alloc (.cells #[.int .i64 (mtF a b c d), .int .i64 (mtT a b c d)] 23)
  have bx1 := bx1.alloc (.cells #[.int .i64 (mtF a b c d), .int .i64 (mtT a b c d)] 23)
  have bx2 := bx2.alloc (.cells #[.int .i64 (mtF a b c d), .int .i64 (mtT a b c d)] 23)
  have bx3 := Bx.new V (mtF a b c d) (mtT a b c d) 23
  have K := K.alloc K.size (.cells #[.int .i64 (mtF a b c d), .int .i64 (mtT a b c d)] 23)
  have c0 := bx0.c0
  have d0 := bx0.c1
  have l0 := bx0.lt
  have c1 := bx1.c0
  have d1 := bx1.c1
  have l1 := bx1.lt
  have c2 := bx2.c0
  have d2 := bx2.c1
  have l2 := bx2.lt
  have c3 := bx3.c0
  have d3 := bx3.c1
  have l3 := bx3.lt
  go_wp2_with fail
  clear c0 d0 l0 c1 d1 l1 c2 d2 l2 c3 d3 l3
  have SZ3 := Lib.hid (show (V.alloc (.cells #[.int .i64 (mtF a b c d), .int .i64 (mtT a b c d)] 23)).heap.size = V.heap.size + 1 by simp)
  generalize (V.alloc (.cells #[.int .i64 (mtF a b c d), .int .i64 (mtT a b c d)] 23)) = W3 at *
  generalize V.heap.size = n3 at *
  have c0 := bx0.c0
  have d0 := bx0.c1
  have l0 := bx0.lt
  have c1 := bx1.c0
  have d1 := bx1.c1
  have l1 := bx1.lt
  have c2 := bx2.c0
  have d2 := bx2.c1
  have l2 := bx2.lt
  have c3 := bx3.c0
  have d3 := bx3.c1
  have l3 := bx3.lt
  refine (ahead_any _ a b t).mono ?_
  rintro e V ⟨rfl, hb⟩
  clear c0 d0 l0 c1 d1 l1 c2 d2 l2 c3 d3 l3
  have bx0 := bx0.below hb
  have bx1 := bx1.below hb
  have bx2 := bx2.below hb
  have bx3 := bx3.below hb
  have K := K.trans (hb.mono K.size)
  clear hb
  have bx0 := bx0.alloc (.cells #[.int .i64 (ahF a b t), .int .i64 (ahT a b t)] 23)
  have bx1 := bx1.alloc (.cells #[.int .i64 (ahF a b t), .int .i64 (ahT a b t)] 23)
  have bx2 := bx2.alloc (.cells #[.int .i64 (ahF a b t), .int .i64 (ahT a b t)] 23)
  have bx3 := bx3.alloc (.cells #[.int .i64 (ahF a b t), .int .i64 (ahT a b t)] 23)
  have bx4 := Bx.new V (ahF a b t) (ahT a b t) 23
  have K := K.alloc K.size (.cells #[.int .i64 (ahF a b t), .int .i64 (ahT a b t)] 23)
  have c0 := bx0.c0
  have d0 := bx0.c1
  have l0 := bx0.lt
  have c1 := bx1.c0
  have d1 := bx1.c1
  have l1 := bx1.lt
  have c2 := bx2.c0
  have d2 := bx2.c1
  have l2 := bx2.lt
  have c3 := bx3.c0
  have d3 := bx3.c1
  have l3 := bx3.lt
  have c4 := bx4.c0
  have d4 := bx4.c1
  have l4 := bx4.lt
  go_wp2_with fail
  clear c0 d0 l0 c1 d1 l1 c2 d2 l2 c3 d3 l3 c4 d4 l4
  have SZ4 := Lib.hid (show (V.alloc (.cells #[.int .i64 (ahF a b t), .int .i64 (ahT a b t)] 23)).heap.size = V.heap.size + 1 by simp)
  generalize (V.alloc (.cells #[.int .i64 (ahF a b t), .int .i64 (ahT a b t)] 23)) = W4 at *
  generalize V.heap.size = n4 at *
  have c0 := bx0.c0
  have d0 := bx0.c1
  have l0 := bx0.lt
  have c1 := bx1.c0
  have d1 := bx1.c1
  have l1 := bx1.lt
  have c2 := bx2.c0
  have d2 := bx2.c1
  have l2 := bx2.lt
  have c3 := bx3.c0
  have d3 := bx3.c1
  have l3 := bx3.lt
  have c4 := bx4.c0
  have d4 := bx4.c1
  have l4 := bx4.lt
  refine (rahead_any _ a b t).mono ?_
  rintro e V ⟨rfl, hb⟩
  clear c0 d0 l0 c1 d1 l1 c2 d2 l2 c3 d3 l3 c4 d4 l4
  have bx0 := bx0.below hb
  have bx1 := bx1.below hb
  have bx2 := bx2.below hb
  have bx3 := bx3.below hb
  have bx4 := bx4.below hb
  have K := K.trans (hb.mono K.size)
  clear hb
  have bx0 := bx0.alloc (.cells #[.int .i64 (ahF a b t), .int .i64 (ahT a b t)] 23)
  have bx1 := bx1.alloc (.cells #[.int .i64 (ahF a b t), .int .i64 (ahT a b t)] 23)
  have bx2 := bx2.alloc (.cells #[.int .i64 (ahF a b t), .int .i64 (ahT a b t)] 23)
  have bx3 := bx3.alloc (.cells #[.int .i64 (ahF a b t), .int .i64 (ahT a b t)] 23)
  have bx4 := bx4.alloc (.cells #[.int .i64 (ahF a b t), .int .i64 (ahT a b t)] 23)
  have bx5 := Bx.new V (ahF a b t) (ahT a b t) 23
  have K := K.alloc K.size (.cells #[.int .i64 (ahF a b t), .int .i64 (ahT a b t)] 23)
  have c0 := bx0.c0
  have d0 := bx0.c1
  have l0 := bx0.lt
  have c1 := bx1.c0
  have d1 := bx1.c1
  have l1 := bx1.lt
  have c2 := bx2.c0
  have d2 := bx2.c1
  have l2 := bx2.lt
  have c3 := bx3.c0
  have d3 := bx3.c1
  have l3 := bx3.lt
  have c4 := bx4.c0
  have d4 := bx4.c1
  have l4 := bx4.lt
  have c5 := bx5.c0
  have d5 := bx5.c1
  have l5 := bx5.lt
  go_wp2_with fail
  clear c0 d0 l0 c1 d1 l1 c2 d2 l2 c3 d3 l3 c4 d4 l4 c5 d5 l5
  have SZ5 := Lib.hid (show (V.alloc (.cells #[.int .i64 (ahF a b t), .int .i64 (ahT a b t)] 23)).heap.size = V.heap.size + 1 by simp)
  generalize (V.alloc (.cells #[.int .i64 (ahF a b t), .int .i64 (ahT a b t)] 23)) = W5 at *
  generalize V.heap.size = n5 at *
  have c0 := bx0.c0
  have d0 := bx0.c1
  have l0 := bx0.lt
  have c1 := bx1.c0
  have d1 := bx1.c1
  have l1 := bx1.lt
  have c2 := bx2.c0
  have d2 := bx2.c1
  have l2 := bx2.lt
  have c3 := bx3.c0
  have d3 := bx3.c1
  have l3 := bx3.lt
  have c4 := bx4.c0
  have d4 := bx4.c1
  have l4 := bx4.lt
  have c5 := bx5.c0
  have d5 := bx5.c1
  have l5 := bx5.lt
  refine (rest_any _ a b t).mono ?_
  rintro e V ⟨rfl, hb⟩
  clear c0 d0 l0 c1 d1 l1 c2 d2 l2 c3 d3 l3 c4 d4 l4 c5 d5 l5
  have bx0 := bx0.below hb
  have bx1 := bx1.below hb
  have bx2 := bx2.below hb
  have bx3 := bx3.below hb
  have bx4 := bx4.below hb
  have bx5 := bx5.below hb
  have K := K.trans (hb.mono K.size)
  clear hb
  have bx0 := bx0.alloc (.cells #[.int .i64 (reF a b t), .int .i64 (reT a b t)] 23)
  have bx1 := bx1.alloc (.cells #[.int .i64 (reF a b t), .int .i64 (reT a b t)] 23)
  have bx2 := bx2.alloc (.cells #[.int .i64 (reF a b t), .int .i64 (reT a b t)] 23)
  have bx3 := bx3.alloc (.cells #[.int .i64 (reF a b t), .int .i64 (reT a b t)] 23)
  have bx4 := bx4.alloc (.cells #[.int .i64 (reF a b t), .int .i64 (reT a b t)] 23)
  have bx5 := bx5.alloc (.cells #[.int .i64 (reF a b t), .int .i64 (reT a b t)] 23)
  have bx6 := Bx.new V (reF a b t) (reT a b t) 23
  have K := K.alloc K.size (.cells #[.int .i64 (reF a b t), .int .i64 (reT a b t)] 23)
  have c0 := bx0.c0
  have d0 := bx0.c1
  have l0 := bx0.lt
  have c1 := bx1.c0
  have d1 := bx1.c1
  have l1 := bx1.lt
  have c2 := bx2.c0
  have d2 := bx2.c1
  have l2 := bx2.lt
  have c3 := bx3.c0
  have d3 := bx3.c1
  have l3 := bx3.lt
  have c4 := bx4.c0
  have d4 := bx4.c1
  have l4 := bx4.lt
  have c5 := bx5.c0
  have d5 := bx5.c1
  have l5 := bx5.lt
  have c6 := bx6.c0
  have d6 := bx6.c1
  have l6 := bx6.lt
  go_wp2_with fail
  clear c0 d0 l0 c1 d1 l1 c2 d2 l2 c3 d3 l3 c4 d4 l4 c5 d5 l5 c6 d6 l6
  have SZ6 := Lib.hid (show (V.alloc (.cells #[.int .i64 (reF a b t), .int .i64 (reT a b t)] 23)).heap.size = V.heap.size + 1 by simp)
  generalize (V.alloc (.cells #[.int .i64 (reF a b t), .int .i64 (reT a b t)] 23)) = W6 at *
  generalize V.heap.size = n6 at *
  have c0 := bx0.c0
  have d0 := bx0.c1
  have l0 := bx0.lt
  have c1 := bx1.c0
  have d1 := bx1.c1
  have l1 := bx1.lt
  have c2 := bx2.c0
  have d2 := bx2.c1
  have l2 := bx2.lt
  have c3 := bx3.c0
  have d3 := bx3.c1
  have l3 := bx3.lt
  have c4 := bx4.c0
  have d4 := bx4.c1
  have l4 := bx4.lt
  have c5 := bx5.c0
  have d5 := bx5.c1
  have l5 := bx5.lt
  have c6 := bx6.c0
  have d6 := bx6.c1
  have l6 := bx6.lt
  refine (rrest_any _ a b t).mono ?_
  rintro e V ⟨rfl, hb⟩
  clear c0 d0 l0 c1 d1 l1 c2 d2 l2 c3 d3 l3 c4 d4 l4 c5 d5 l5 c6 d6 l6
  have bx0 := bx0.below hb
  have bx1 := bx1.below hb
  have bx2 := bx2.below hb
  have bx3 := bx3.below hb
  have bx4 := bx4.below hb
  have bx5 := bx5.below hb
  have bx6 := bx6.below hb
  have K := K.trans (hb.mono K.size)
  clear hb
  have bx0 := bx0.alloc (.cells #[.int .i64 (reF a b t), .int .i64 (reT a b t)] 23)
  have bx1 := bx1.alloc (.cells #[.int .i64 (reF a b t), .int .i64 (reT a b t)] 23)
  have bx2 := bx2.alloc (.cells #[.int .i64 (reF a b t), .int .i64 (reT a b t)] 23)
  have bx3 := bx3.alloc (.cells #[.int .i64 (reF a b t), .int .i64 (reT a b t)] 23)
  have bx4 := bx4.alloc (.cells #[.int .i64 (reF a b t), .int .i64 (reT a b t)] 23)
  have bx5 := bx5.alloc (.cells #[.int .i64 (reF a b t), .int .i64 (reT a b t)] 23)
  have bx6 := bx6.alloc (.cells #[.int .i64 (reF a b t), .int .i64 (reT a b t)] 23)
  have bx7 := Bx.new V (reF a b t) (reT a b t) 23
  have K := K.alloc K.size (.cells #[.int .i64 (reF a b t), .int .i64 (reT a b t)] 23)
  have c0 := bx0.c0
  have d0 := bx0.c1
  have l0 := bx0.lt
  have c1 := bx1.c0
  have d1 := bx1.c1
  have l1 := bx1.lt
  have c2 := bx2.c0
  have d2 := bx2.c1
  have l2 := bx2.lt
  have c3 := bx3.c0
  have d3 := bx3.c1
  have l3 := bx3.lt
  have c4 := bx4.c0
  have d4 := bx4.c1
  have l4 := bx4.lt
  have c5 := bx5.c0
  have d5 := bx5.c1
  have l5 := bx5.lt
  have c6 := bx6.c0
  have d6 := bx6.c1
  have l6 := bx6.lt
  have c7 := bx7.c0
  have d7 := bx7.c1
  have l7 := bx7.lt
  go_wp2_with fail
  clear c0 d0 l0 c1 d1 l1 c2 d2 l2 c3 d3 l3 c4 d4 l4 c5 d5 l5 c6 d6 l6 c7 d7 l7
  have SZ7 := Lib.hid (show (V.alloc (.cells #[.int .i64 (reF a b t), .int .i64 (reT a b t)] 23)).heap.size = V.heap.size + 1 by simp)
  generalize (V.alloc (.cells #[.int .i64 (reF a b t), .int .i64 (reT a b t)] 23)) = W7 at *
  generalize V.heap.size = n7 at *
  have c0 := bx0.c0
  have d0 := bx0.c1
  have l0 := bx0.lt
  have c1 := bx1.c0
  have d1 := bx1.c1
  have l1 := bx1.lt
  have c2 := bx2.c0
  have d2 := bx2.c1
  have l2 := bx2.lt
  have c3 := bx3.c0
  have d3 := bx3.c1
  have l3 := bx3.lt
  have c4 := bx4.c0
  have d4 := bx4.c1
  have l4 := bx4.lt
  have c5 := bx5.c0
  have d5 := bx5.c1
  have l5 := bx5.lt
  have c6 := bx6.c0
  have d6 := bx6.c1
  have l6 := bx6.lt
  have c7 := bx7.c0
  have d7 := bx7.c1
  have l7 := bx7.lt
  refine (live_any _).mono ?_
  rintro e V ⟨rfl, hb⟩
  clear c0 d0 l0 c1 d1 l1 c2 d2 l2 c3 d3 l3 c4 d4 l4 c5 d5 l5 c6 d6 l6 c7 d7 l7
  have bx0 := bx0.below hb
  have bx1 := bx1.below hb
  have bx2 := bx2.below hb
  have bx3 := bx3.below hb
  have bx4 := bx4.below hb
  have bx5 := bx5.below hb
  have bx6 := bx6.below hb
  have bx7 := bx7.below hb
  have K := K.trans (hb.mono K.size)
  clear hb
  generalize V = W8 at *
  have c0 := bx0.c0
  have d0 := bx0.c1
  have l0 := bx0.lt
  have c1 := bx1.c0
  have d1 := bx1.c1
  have l1 := bx1.lt
  have c2 := bx2.c0
  have d2 := bx2.c1
  have l2 := bx2.lt
  have c3 := bx3.c0
  have d3 := bx3.c1
  have l3 := bx3.lt
  have c4 := bx4.c0
  have d4 := bx4.c1
  have l4 := bx4.lt
  have c5 := bx5.c0
  have d5 := bx5.c1
  have l5 := bx5.lt
  have c6 := bx6.c0
  have d6 := bx6.c1
  have l6 := bx6.lt
  have c7 := bx7.c0
  have d7 := bx7.c1
  have l7 := bx7.lt
  go_wp2_with fail
  go_ret
  exact ⟨rfl, K⟩

set_option maxHeartbeats 1000000 in
theorem moves_yy (w : World) (a b n : Int) (h1 : shE a b n = 0) (h2 : miE a b n = 0) : Calls Try.prog 8 #[sp a b, .int .i64 n] w (PV (.bool true) w) := by
  obtain ⟨E1, q1, q2⟩ := shift_back h1
  have E1 := Lib.hid E1
  have E2 := mirror_back h2
  have E2 := Lib.hid E2
  clear h1 h2
  go_enter Try.func8, Try.ntmps8
  go_wp2_with fail
  have K : Below w.heap.size w (w.alloc (.cells #[.int .i64 a, .int .i64 b] 23)) := ((Below.refl _ _).alloc (Nat.le_refl _) _)
  have bx0 : Bx (w.alloc (.cells #[.int .i64 a, .int .i64 b] 23)) (w.heap.size) a b := (Bx.new' (W := w) (n := w.heap.size) (by simp) a b 23)
  generalize (w.alloc (.cells #[.int .i64 a, .int .i64 b] 23)) = W1 at *
  have c0 := bx0.c0
  have d0 := bx0.c1
  have l0 := bx0.lt
  refine (shift_any _ a b n).mono ?_
  rintro e V ⟨rfl, hb⟩
  rw [E1.out.1, E1.out.2.1, E1.out.2.2.1]
  clear c0 d0 l0
  have bx0 := bx0.below hb
  have K := K.trans (hb.mono K.size)
  clear hb
  have bx0 := bx0.alloc (.cells #[.int .i64 (a + n), .int .i64 (b + n)] 23)
  have bx1 := Bx.new V (a + n) (b + n) 23
  have K := K.alloc K.size (.cells #[.int .i64 (a + n), .int .i64 (b + n)] 23)
  have c0 := bx0.c0
  have d0 := bx0.c1
  have l0 := bx0.lt
  have c1 := bx1.c0
  have d1 := bx1.c1
  have l1 := bx1.lt
  go_wp2_with fail
  clear c0 d0 l0 c1 d1 l1
  have SZ1 := Lib.hid (show (V.alloc (.cells #[.int .i64 (a + n), .int .i64 (b + n)] 23)).heap.size = V.heap.size + 1 by simp)
  generalize (V.alloc (.cells #[.int .i64 (a + n), .int .i64 (b + n)] 23)) = W2 at *
  generalize V.heap.size = n1 at *
  have c0 := bx0.c0
  have d0 := bx0.c1
  have l0 := bx0.lt
  have c1 := bx1.c0
  have d1 := bx1.c1
  have l1 := bx1.lt
  refine (rshift_any _ a b n).mono ?_
  rintro e V ⟨rfl, hb⟩
  rw [E1.out.1, E1.out.2.1, E1.out.2.2.1]
  clear c0 d0 l0 c1 d1 l1
  have bx0 := bx0.below hb
  have bx1 := bx1.below hb
  have K := K.trans (hb.mono K.size)
  clear hb
  have bx0 := bx0.alloc (.cells #[.int .i64 (a + n), .int .i64 (b + n)] 23)
  have bx1 := bx1.alloc (.cells #[.int .i64 (a + n), .int .i64 (b + n)] 23)
  have bx2 := Bx.new V (a + n) (b + n) 23
  have K := K.alloc K.size (.cells #[.int .i64 (a + n), .int .i64 (b + n)] 23)
  have c0 := bx0.c0
  have d0 := bx0.c1
  have l0 := bx0.lt
  have c1 := bx1.c0
  have d1 := bx1.c1
  have l1 := bx1.lt
  have c2 := bx2.c0
  have d2 := bx2.c1
  have l2 := bx2.lt
  go_wp2_with fail
  clear c0 d0 l0 c1 d1 l1 c2 d2 l2
  have SZ2 := Lib.hid (show (V.alloc (.cells #[.int .i64 (a + n), .int .i64 (b + n)] 23)).heap.size = V.heap.size + 1 by simp)
  generalize (V.alloc (.cells #[.int .i64 (a + n), .int .i64 (b + n)] 23)) = W3 at *
  generalize V.heap.size = n2 at *
  have c0 := bx0.c0
  have d0 := bx0.c1
  have l0 := bx0.lt
  have c1 := bx1.c0
  have d1 := bx1.c1
  have l1 := bx1.lt
  have c2 := bx2.c0
  have d2 := bx2.c1
  have l2 := bx2.lt
  refine (mirror_any _ a b n).mono ?_
  rintro e V ⟨rfl, hb⟩
  rw [E2.out.1, E2.out.2.1, E2.out.2.2.1]
  clear c0 d0 l0 c1 d1 l1 c2 d2 l2
  have bx0 := bx0.below hb
  have bx1 := bx1.below hb
  have bx2 := bx2.below hb
  have K := K.trans (hb.mono K.size)
  clear hb
  have bx0 := bx0.alloc (.cells #[.int .i64 (n - b), .int .i64 (n - a)] 23)
  have bx1 := bx1.alloc (.cells #[.int .i64 (n - b), .int .i64 (n - a)] 23)
  have bx2 := bx2.alloc (.cells #[.int .i64 (n - b), .int .i64 (n - a)] 23)
  have bx3 := Bx.new V (n - b) (n - a) 23
  have K := K.alloc K.size (.cells #[.int .i64 (n - b), .int .i64 (n - a)] 23)
  have c0 := bx0.c0
  have d0 := bx0.c1
  have l0 := bx0.lt
  have c1 := bx1.c0
  have d1 := bx1.c1
  have l1 := bx1.lt
  have c2 := bx2.c0
  have d2 := bx2.c1
  have l2 := bx2.lt
  have c3 := bx3.c0
  have d3 := bx3.c1
  have l3 := bx3.lt
  go_wp2_with fail
  clear c0 d0 l0 c1 d1 l1 c2 d2 l2 c3 d3 l3
  have SZ3 := Lib.hid (show (V.alloc (.cells #[.int .i64 (n - b), .int .i64 (n - a)] 23)).heap.size = V.heap.size + 1 by simp)
  generalize (V.alloc (.cells #[.int .i64 (n - b), .int .i64 (n - a)] 23)) = W4 at *
  generalize V.heap.size = n3 at *
  have c0 := bx0.c0
  have d0 := bx0.c1
  have l0 := bx0.lt
  have c1 := bx1.c0
  have d1 := bx1.c1
  have l1 := bx1.lt
  have c2 := bx2.c0
  have d2 := bx2.c1
  have l2 := bx2.lt
  have c3 := bx3.c0
  have d3 := bx3.c1
  have l3 := bx3.lt
  refine (rmirror_any _ a b n).mono ?_
  rintro e V ⟨rfl, hb⟩
  rw [E2.out.1, E2.out.2.1, E2.out.2.2.1]
  clear c0 d0 l0 c1 d1 l1 c2 d2 l2 c3 d3 l3
  have bx0 := bx0.below hb
  have bx1 := bx1.below hb
  have bx2 := bx2.below hb
  have bx3 := bx3.below hb
  have K := K.trans (hb.mono K.size)
  clear hb
  have bx0 := bx0.alloc (.cells #[.int .i64 (n - b), .int .i64 (n - a)] 23)
  have bx1 := bx1.alloc (.cells #[.int .i64 (n - b), .int .i64 (n - a)] 23)
  have bx2 := bx2.alloc (.cells #[.int .i64 (n - b), .int .i64 (n - a)] 23)
  have bx3 := bx3.alloc (.cells #[.int .i64 (n - b), .int .i64 (n - a)] 23)
  have bx4 := Bx.new V (n - b) (n - a) 23
  have K := K.alloc K.size (.cells #[.int .i64 (n - b), .int .i64 (n - a)] 23)
  have c0 := bx0.c0
  have d0 := bx0.c1
  have l0 := bx0.lt
  have c1 := bx1.c0
  have d1 := bx1.c1
  have l1 := bx1.lt
  have c2 := bx2.c0
  have d2 := bx2.c1
  have l2 := bx2.lt
  have c3 := bx3.c0
  have d3 := bx3.c1
  have l3 := bx3.lt
  have c4 := bx4.c0
  have d4 := bx4.c1
  have l4 := bx4.lt
  go_wp2_with fail
  clear c0 d0 l0 c1 d1 l1 c2 d2 l2 c3 d3 l3 c4 d4 l4
  have SZ4 := Lib.hid (show (V.alloc (.cells #[.int .i64 (n - b), .int .i64 (n - a)] 23)).heap.size = V.heap.size + 1 by simp)
  generalize (V.alloc (.cells #[.int .i64 (n - b), .int .i64 (n - a)] 23)) = W5 at *
  generalize V.heap.size = n4 at *
  have c0 := bx0.c0
  have d0 := bx0.c1
  have l0 := bx0.lt
  have c1 := bx1.c0
  have d1 := bx1.c1
  have l1 := bx1.lt
  have c2 := bx2.c0
  have d2 := bx2.c1
  have l2 := bx2.lt
  have c3 := bx3.c0
  have d3 := bx3.c1
  have l3 := bx3.lt
  have c4 := bx4.c0
  have d4 := bx4.c1
  have l4 := bx4.lt
  refine (shift_any _ (a + n) (b + n) (-n)).mono ?_
  rintro e V ⟨rfl, hb⟩
  rw [E1.out.2.2.2.1, E1.out.2.2.2.2.1, E1.out.2.2.2.2.2]
  clear c0 d0 l0 c1 d1 l1 c2 d2 l2 c3 d3 l3 c4 d4 l4
  have bx0 := bx0.below hb
  have bx1 := bx1.below hb
  have bx2 := bx2.below hb
  have bx3 := bx3.below hb
  have bx4 := bx4.below hb
  have K := K.trans (hb.mono K.size)
  clear hb
  have bx0 := bx0.alloc (.cells #[.int .i64 a, .int .i64 b] 23)
  have bx1 := bx1.alloc (.cells #[.int .i64 a, .int .i64 b] 23)
  have bx2 := bx2.alloc (.cells #[.int .i64 a, .int .i64 b] 23)
  have bx3 := bx3.alloc (.cells #[.int .i64 a, .int .i64 b] 23)
  have bx4 := bx4.alloc (.cells #[.int .i64 a, .int .i64 b] 23)
  have bx5 := Bx.new V a b 23
  have K := K.alloc K.size (.cells #[.int .i64 a, .int .i64 b] 23)
  have c0 := bx0.c0
  have d0 := bx0.c1
  have l0 := bx0.lt
  have c1 := bx1.c0
  have d1 := bx1.c1
  have l1 := bx1.lt
  have c2 := bx2.c0
  have d2 := bx2.c1
  have l2 := bx2.lt
  have c3 := bx3.c0
  have d3 := bx3.c1
  have l3 := bx3.lt
  have c4 := bx4.c0
  have d4 := bx4.c1
  have l4 := bx4.lt
  have c5 := bx5.c0
  have d5 := bx5.c1
  have l5 := bx5.lt
  go_wp2_with fail
  clear c0 d0 l0 c1 d1 l1 c2 d2 l2 c3 d3 l3 c4 d4 l4 c5 d5 l5
  have SZ5 := Lib.hid (show (V.alloc (.cells #[.int .i64 a, .int .i64 b] 23)).heap.size = V.heap.size + 1 by simp)
  generalize (V.alloc (.cells #[.int .i64 a, .int .i64 b] 23)) = W6 at *
  generalize V.heap.size = n5 at *
  have c0 := bx0.c0
  have d0 := bx0.c1
  have l0 := bx0.lt
  have c1 := bx1.c0
  have d1 := bx1.c1
  have l1 := bx1.lt
  have c2 := bx2.c0
  have d2 := bx2.c1
  have l2 := bx2.lt
  have c3 := bx3.c0
  have d3 := bx3.c1
  have l3 := bx3.lt
  have c4 := bx4.c0
  have d4 := bx4.c1
  have l4 := bx4.lt
  have c5 := bx5.c0
  have d5 := bx5.c1
  have l5 := bx5.lt
  refine (mirror_any _ (n - b) (n - a) n).mono ?_
  rintro e V ⟨rfl, hb⟩
  rw [E2.out.2.2.2.1, E2.out.2.2.2.2.1, E2.out.2.2.2.2.2]
  clear c0 d0 l0 c1 d1 l1 c2 d2 l2 c3 d3 l3 c4 d4 l4 c5 d5 l5
  have bx0 := bx0.below hb
  have bx1 := bx1.below hb
  have bx2 := bx2.below hb
  have bx3 := bx3.below hb
  have bx4 := bx4.below hb
  have bx5 := bx5.below hb
  have K := K.trans (hb.mono K.size)
  clear hb
  have bx0 := bx0.alloc (.cells #[.int .i64 a, .int .i64 b] 23)
  have bx1 := bx1.alloc (.cells #[.int .i64 a, .int .i64 b] 23)
  have bx2 := bx2.alloc (.cells #[.int .i64 a, .int .i64 b] 23)
  have bx3 := bx3.alloc (.cells #[.int .i64 a, .int .i64 b] 23)
  have bx4 := bx4.alloc (.cells #[.int .i64 a, .int .i64 b] 23)
  have bx5 := bx5.alloc (.cells #[.int .i64 a, .int .i64 b] 23)
  have bx6 := Bx.new V a b 23
  have K := K.alloc K.size (.cells #[.int .i64 a, .int .i64 b] 23)
  have c0 := bx0.c0
  have d0 := bx0.c1
  have l0 := bx0.lt
  have c1 := bx1.c0
  have d1 := bx1.c1
  have l1 := bx1.lt
  have c2 := bx2.c0
  have d2 := bx2.c1
  have l2 := bx2.lt
  have c3 := bx3.c0
  have d3 := bx3.c1
  have l3 := bx3.lt
  have c4 := bx4.c0
  have d4 := bx4.c1
  have l4 := bx4.lt
  have c5 := bx5.c0
  have d5 := bx5.c1
  have l5 := bx5.lt
  have c6 := bx6.c0
  have d6 := bx6.c1
  have l6 := bx6.lt
  go_wp2_with fail
  clear c0 d0 l0 c1 d1 l1 c2 d2 l2 c3 d3 l3 c4 d4 l4 c5 d5 l5 c6 d6 l6
  have SZ6 := Lib.hid (show (V.alloc (.cells #[.int .i64 a, .int .i64 b] 23)).heap.size = V.heap.size + 1 by simp)
  generalize (V.alloc (.cells #[.int .i64 a, .int .i64 b] 23)) = W7 at *
  generalize V.heap.size = n6 at *
  have c0 := bx0.c0
  have d0 := bx0.c1
  have l0 := bx0.lt
  have c1 := bx1.c0
  have d1 := bx1.c1
  have l1 := bx1.lt
  have c2 := bx2.c0
  have d2 := bx2.c1
  have l2 := bx2.lt
  have c3 := bx3.c0
  have d3 := bx3.c1
  have l3 := bx3.lt
  have c4 := bx4.c0
  have d4 := bx4.c1
  have l4 := bx4.lt
  have c5 := bx5.c0
  have d5 := bx5.c1
  have l5 := bx5.lt
  have c6 := bx6.c0
  have d6 := bx6.c1
  have l6 := bx6.lt
  refine (live_any _).mono ?_
  rintro e V ⟨rfl, hb⟩
  clear c0 d0 l0 c1 d1 l1 c2 d2 l2 c3 d3 l3 c4 d4 l4 c5 d5 l5 c6 d6 l6
  have bx0 := bx0.below hb
  have bx1 := bx1.below hb
  have bx2 := bx2.below hb
  have bx3 := bx3.below hb
  have bx4 := bx4.below hb
  have bx5 := bx5.below hb
  have bx6 := bx6.below hb
  have K := K.trans (hb.mono K.size)
  clear hb
  generalize V = W8 at *
  have c0 := bx0.c0
  have d0 := bx0.c1
  have l0 := bx0.lt
  have c1 := bx1.c0
  have d1 := bx1.c1
  have l1 := bx1.lt
  have c2 := bx2.c0
  have d2 := bx2.c1
  have l2 := bx2.lt
  have c3 := bx3.c0
  have d3 := bx3.c1
  have l3 := bx3.lt
  have c4 := bx4.c0
  have d4 := bx4.c1
  have l4 := bx4.lt
  have c5 := bx5.c0
  have d5 := bx5.c1
  have l5 := bx5.lt
  have c6 := bx6.c0
  have d6 := bx6.c1
  have l6 := bx6.lt
  go_wp2_with fail
  go_ret
  exact ⟨rfl, K⟩

set_option maxHeartbeats 1000000 in
theorem moves_yn (w : World) (a b n : Int) (h1 : shE a b n = 0) (h2 : ¬ miE a b n = 0) : Calls Try.prog 8 #[sp a b, .int .i64 n] w (PV (.bool true) w) := by
  obtain ⟨E1, q1, q2⟩ := shift_back h1
  have E1 := Lib.hid E1
  have E2 := Lib.hid (show miF a b n = 0 ∧ miT a b n = 0 by simp [miF, miT, h2])
  have z2 : (miE a b n == 0) = false := by simpa using h2
  clear h1 h2
  go_enter Try.func8, Try.ntmps8
  go_wp2_with fail
  have K : Below w.heap.size w (w.alloc (.cells #[.int .i64 a, .int .i64 b] 23)) := ((Below.refl _ _).alloc (Nat.le_refl _) _)
  have bx0 : Bx (w.alloc (.cells #[.int .i64 a, .int .i64 b] 23)) (w.heap.size) a b := (Bx.new' (W := w) (n := w.heap.size) (by simp) a b 23)
  generalize (w.alloc (.cells #[.int .i64 a, .int .i64 b] 23)) = W1 at *
  have c0 := bx0.c0
  have d0 := bx0.c1
  have l0 := bx0.lt
  refine (shift_any _ a b n).mono ?_
  rintro e V ⟨rfl, hb⟩
  rw [E1.out.1, E1.out.2.1, E1.out.2.2.1]
  clear c0 d0 l0
  have bx0 := bx0.below hb
  have K := K.trans (hb.mono K.size)
  clear hb
  have bx0 := bx0.alloc (.cells #[.int .i64 (a + n), .int .i64 (b + n)] 23)
  have bx1 := Bx.new V (a + n) (b + n) 23
  have K := K.alloc K.size (.cells #[.int .i64 (a + n), .int .i64 (b + n)] 23)
  have c0 := bx0.c0
  have d0 := bx0.c1
  have l0 := bx0.lt
  have c1 := bx1.c0
  have d1 := bx1.c1
  have l1 := bx1.lt
  go_wp2_with fail
  clear c0 d0 l0 c1 d1 l1
  have SZ1 := Lib.hid (show (V.alloc (.cells #[.int .i64 (a + n), .int .i64 (b + n)] 23)).heap.size = V.heap.size + 1 by simp)
  generalize (V.alloc (.cells #[.int .i64 (a + n), .int .i64 (b + n)] 23)) = W2 at *
  generalize V.heap.size = n1 at *
  have c0 := bx0.c0
  have d0 := bx0.c1
  have l0 := bx0.lt
  have c1 := bx1.c0
  have d1 := bx1.c1
  have l1 := bx1.lt
  refine (rshift_any _ a b n).mono ?_
  rintro e V ⟨rfl, hb⟩
  rw [E1.out.1, E1.out.2.1, E1.out.2.2.1]
  clear c0 d0 l0 c1 d1 l1
  have bx0 := bx0.below hb
  have bx1 := bx1.below hb
  have K := K.trans (hb.mono K.size)
  clear hb
  have bx0 := bx0.alloc (.cells #[.int .i64 (a + n), .int .i64 (b + n)] 23)
  have bx1 := bx1.alloc (.cells #[.int .i64 (a + n), .int .i64 (b + n)] 23)
  have bx2 := Bx.new V (a + n) (b + n) 23
  have K := K.alloc K.size (.cells #[.int .i64 (a + n), .int .i64 (b + n)] 23)
  have c0 := bx0.c0
  have d0 := bx0.c1
  have l0 := bx0.lt
  have c1 := bx1.c0
  have d1 := bx1.c1
  have l1 := bx1.lt
  have c2 := bx2.c0
  have d2 := bx2.c1
  have l2 := bx2.lt
  go_wp2_with fail
  clear c0 d0 l0 c1 d1 l1 c2 d2 l2
  have SZ2 := Lib.hid (show (V.alloc (.cells #[.int .i64 (a + n), .int .i64 (b + n)] 23)).heap.size = V.heap.size + 1 by simp)
  generalize (V.alloc (.cells #[.int .i64 (a + n), .int .i64 (b + n)] 23)) = W3 at *
  generalize V.heap.size = n2 at *
  have c0 := bx0.c0
  have d0 := bx0.c1
  have l0 := bx0.lt
  have c1 := bx1.c0
  have d1 := bx1.c1
  have l1 := bx1.lt
  have c2 := bx2.c0
  have d2 := bx2.c1
  have l2 := bx2.lt
  refine (mirror_any _ a b n).mono ?_
  rintro e V ⟨rfl, hb⟩
  rw [E2.out.1, E2.out.2]
  clear c0 d0 l0 c1 d1 l1 c2 d2 l2
  have bx0 := bx0.below hb
  have bx1 := bx1.below hb
  have bx2 := bx2.below hb
  have K := K.trans (hb.mono K.size)
  clear hb
  have bx0 := bx0.alloc (.cells #[.int .i64 0, .int .i64 0] 23)
  have bx1 := bx1.alloc (.cells #[.int .i64 0, .int .i64 0] 23)
  have bx2 := bx2.alloc (.cells #[.int .i64 0, .int .i64 0] 23)
  have bx3 := Bx.new V 0 0 23
  have K := K.alloc K.size (.cells #[.int .i64 0, .int .i64 0] 23)
  have c0 := bx0.c0
  have d0 := bx0.c1
  have l0 := bx0.lt
  have c1 := bx1.c0
  have d1 := bx1.c1
  have l1 := bx1.lt
  have c2 := bx2.c0
  have d2 := bx2.c1
  have l2 := bx2.lt
  have c3 := bx3.c0
  have d3 := bx3.c1
  have l3 := bx3.lt
  go_wp2_with fail
  clear c0 d0 l0 c1 d1 l1 c2 d2 l2 c3 d3 l3
  have SZ3 := Lib.hid (show (V.alloc (.cells #[.int .i64 0, .int .i64 0] 23)).heap.size = V.heap.size + 1 by simp)
  generalize (V.alloc (.cells #[.int .i64 0, .int .i64 0] 23)) = W4 at *
  generalize V.heap.size = n3 at *
  have c0 := bx0.c0
  have d0 := bx0.c1
  have l0 := bx0.lt
  have c1 := bx1.c0
  have d1 := bx1.c1
  have l1 := bx1.lt
  have c2 := bx2.c0
  have d2 := bx2.c1
  have l2 := bx2.lt
  have c3 := bx3.c0
  have d3 := bx3.c1
  have l3 := bx3.lt
  refine (rmirror_any _ a b n).mono ?_
  rintro e V ⟨rfl, hb⟩
  rw [E2.out.1, E2.out.2]
  clear c0 d0 l0 c1 d1 l1 c2 d2 l2 c3 d3 l3
  have bx0 := bx0.below hb
  have bx1 := bx1.below hb
  have bx2 := bx2.below hb
  have bx3 := bx3.below hb
  have K := K.trans (hb.mono K.size)
  clear hb
  have bx0 := bx0.alloc (.cells #[.int .i64 0, .int .i64 0] 23)
  have bx1 := bx1.alloc (.cells #[.int .i64 0, .int .i64 0] 23)
  have bx2 := bx2.alloc (.cells #[.int .i64 0, .int .i64 0] 23)
  have bx3 := bx3.alloc (.cells #[.int .i64 0, .int .i64 0] 23)
  have bx4 := Bx.new V 0 0 23
  have K := K.alloc K.size (.cells #[.int .i64 0, .int .i64 0] 23)
  have c0 := bx0.c0
  have d0 := bx0.c1
  have l0 := bx0.lt
  have c1 := bx1.c0
  have d1 := bx1.c1
  have l1 := bx1.lt
  have c2 := bx2.c0
  have d2 := bx2.c1
  have l2 := bx2.lt
  have c3 := bx3.c0
  have d3 := bx3.c1
  have l3 := bx3.lt
  have c4 := bx4.c0
  have d4 := bx4.c1
  have l4 := bx4.lt
  go_wp2_with fail
  clear c0 d0 l0 c1 d1 l1 c2 d2 l2 c3 d3 l3 c4 d4 l4
  have SZ4 := Lib.hid (show (V.alloc (.cells #[.int .i64 0, .int .i64 0] 23)).heap.size = V.heap.size + 1 by simp)
  generalize (V.alloc (.cells #[.int .i64 0, .int .i64 0] 23)) = W5 at *
  generalize V.heap.size = n4 at *
  have c0 := bx0.c0
  have d0 := bx0.c1
  have l0 := bx0.lt
  have c1 := bx1.c0
  have d1 := bx1.c1
  have l1 := bx1.lt
  have c2 := bx2.c0
  have d2 := bx2.c1
  have l2 := bx2.lt
  have c3 := bx3.c0
  have d3 := bx3.c1
  have l3 := bx3.lt
  have c4 := bx4.c0
  have d4 := bx4.c1
  have l4 := bx4.lt
  refine (shift_any _ (a + n) (b + n) (-n)).mono ?_
  rintro e V ⟨rfl, hb⟩
  rw [E1.out.2.2.2.1, E1.out.2.2.2.2.1, E1.out.2.2.2.2.2]
  clear c0 d0 l0 c1 d1 l1 c2 d2 l2 c3 d3 l3 c4 d4 l4
  have bx0 := bx0.below hb
  have bx1 := bx1.below hb
  have bx2 := bx2.below hb
  have bx3 := bx3.below hb
  have bx4 := bx4.below hb
  have K := K.trans (hb.mono K.size)
  clear hb
  have bx0 := bx0.alloc (.cells #[.int .i64 a, .int .i64 b] 23)
  have bx1 := bx1.alloc (.cells #[.int .i64 a, .int .i64 b] 23)
  have bx2 := bx2.alloc (.cells #[.int .i64 a, .int .i64 b] 23)
  have bx3 := bx3.alloc (.cells #[.int .i64 a, .int .i64 b] 23)
  have bx4 := bx4.alloc (.cells #[.int .i64 a, .int .i64 b] 23)
  have bx5 := Bx.new V a b 23
  have K := K.alloc K.size (.cells #[.int .i64 a, .int .i64 b] 23)
  have c0 := bx0.c0
  have d0 := bx0.c1
  have l0 := bx0.lt
  have c1 := bx1.c0
  have d1 := bx1.c1
  have l1 := bx1.lt
  have c2 := bx2.c0
  have d2 := bx2.c1
  have l2 := bx2.lt
  have c3 := bx3.c0
  have d3 := bx3.c1
  have l3 := bx3.lt
  have c4 := bx4.c0
  have d4 := bx4.c1
  have l4 := bx4.lt
  have c5 := bx5.c0
  have d5 := bx5.c1
  have l5 := bx5.lt
  go_wp2_with fail
  clear c0 d0 l0 c1 d1 l1 c2 d2 l2 c3 d3 l3 c4 d4 l4 c5 d5 l5
  have SZ5 := Lib.hid (show (V.alloc (.cells #[.int .i64 a, .int .i64 b] 23)).heap.size = V.heap.size + 1 by simp)
  generalize (V.alloc (.cells #[.int .i64 a, .int .i64 b] 23)) = W6 at *
  generalize V.heap.size = n5 at *
  have c0 := bx0.c0
  have d0 := bx0.c1
  have l0 := bx0.lt
  have c1 := bx1.c0
  have d1 := bx1.c1
  have l1 := bx1.lt
  have c2 := bx2.c0
  have d2 := bx2.c1
  have l2 := bx2.lt
  have c3 := bx3.c0
  have d3 := bx3.c1
  have l3 := bx3.lt
  have c4 := bx4.c0
  have d4 := bx4.c1
  have l4 := bx4.lt
  have c5 := bx5.c0
  have d5 := bx5.c1
  have l5 := bx5.lt
  refine (live_any _).mono ?_
  rintro e V ⟨rfl, hb⟩
  clear c0 d0 l0 c1 d1 l1 c2 d2 l2 c3 d3 l3 c4 d4 l4 c5 d5 l5
  have bx0 := bx0.below hb
  have bx1 := bx1.below hb
  have bx2 := bx2.below hb
  have bx3 := bx3.below hb
  have bx4 := bx4.below hb
  have bx5 := bx5.below hb
  have K := K.trans (hb.mono K.size)
  clear hb
  generalize V = W7 at *
  have c0 := bx0.c0
  have d0 := bx0.c1
  have l0 := bx0.lt
  have c1 := bx1.c0
  have d1 := bx1.c1
  have l1 := bx1.lt
  have c2 := bx2.c0
  have d2 := bx2.c1
  have l2 := bx2.lt
  have c3 := bx3.c0
  have d3 := bx3.c1
  have l3 := bx3.lt
  have c4 := bx4.c0
  have d4 := bx4.c1
  have l4 := bx4.lt
  have c5 := bx5.c0
  have d5 := bx5.c1
  have l5 := bx5.lt
  go_wp2_with fail
  go_ret
  exact ⟨rfl, K⟩

set_option maxHeartbeats 1000000 in
theorem moves_ny (w : World) (a b n : Int) (h1 : ¬ shE a b n = 0) (h2 : miE a b n = 0) : Calls Try.prog 8 #[sp a b, .int .i64 n] w (PV (.bool true) w) := by
  have E1 := Lib.hid (show shF a b n = 0 ∧ shT a b n = 0 by simp [shF, shT, h1])
  have z1 : (shE a b n == 0) = false := by simpa using h1
  have E2 := mirror_back h2
  have E2 := Lib.hid E2
  clear h1 h2
  go_enter Try.func8, Try.ntmps8
  go_wp2_with fail
  have K : Below w.heap.size w (w.alloc (.cells #[.int .i64 a, .int .i64 b] 23)) := ((Below.refl _ _).alloc (Nat.le_refl _) _)
  have bx0 : Bx (w.alloc (.cells #[.int .i64 a, .int .i64 b] 23)) (w.heap.size) a b := (Bx.new' (W := w) (n := w.heap.size) (by simp) a b 23)
  generalize (w.alloc (.cells #[.int .i64 a, .int .i64 b] 23)) = W1 at *
  have c0 := bx0.c0
  have d0 := bx0.c1
  have l0 := bx0.lt
  refine (shift_any _ a b n).mono ?_
  rintro e V ⟨rfl, hb⟩
  rw [E1.out.1, E1.out.2]
  clear c0 d0 l0
  have bx0 := bx0.below hb
  have K := K.trans (hb.mono K.size)
  clear hb
  have bx0 := bx0.alloc (.cells #[.int .i64 0, .int .i64 0] 23)
  have bx1 := Bx.new V 0 0 23
  have K := K.alloc K.size (.cells #[.int .i64 0, .int .i64 0] 23)
  have c0 := bx0.c0
  have d0 := bx0.c1
  have l0 := bx0.lt
  have c1 := bx1.c0
  have d1 := bx1.c1
  have l1 := bx1.lt
  go_wp2_with fail
  clear c0 d0 l0 c1 d1 l1
  have SZ1 := Lib.hid (show (V.alloc (.cells #[.int .i64 0, .int .i64 0] 23)).heap.size = V.heap.size + 1 by simp)
  generalize (V.alloc (.cells #[.int .i64 0, .int .i64 0] 23)) = W2 at *
  generalize V.heap.size = n1 at *
  have c0 := bx0.c0
  have d0 := bx0.c1
  have l0 := bx0.lt
  have c1 := bx1.c0
  have d1 := bx1.c1
  have l1 := bx1.lt
  refine (rshift_any _ a b n).mono ?_
  rintro e V ⟨rfl, hb⟩
  rw [E1.out.1, E1.out.2]
  clear c0 d0 l0 c1 d1 l1
  have bx0 := bx0.below hb
  have bx1 := bx1.below hb
  have K := K.trans (hb.mono K.size)
  clear hb
  have bx0 := bx0.alloc (.cells #[.int .i64 0, .int .i64 0] 23)
  have bx1 := bx1.alloc (.cells #[.int .i64 0, .int .i64 0] 23)
  have bx2 := Bx.new V 0 0 23
  have K := K.alloc K.size (.cells #[.int .i64 0, .int .i64 0] 23)
  have c0 := bx0.c0
  have d0 := bx0.c1
  have l0 := bx0.lt
  have c1 := bx1.c0
  have d1 := bx1.c1
  have l1 := bx1.lt
  have c2 := bx2.c0
  have d2 := bx2.c1
  have l2 := bx2.lt
  go_wp2_with fail
  clear c0 d0 l0 c1 d1 l1 c2 d2 l2
  have SZ2 := Lib.hid (show (V.alloc (.cells #[.int .i64 0, .int .i64 0] 23)).heap.size = V.heap.size + 1 by simp)
  generalize (V.alloc (.cells #[.int .i64 0, .int .i64 0] 23)) = W3 at *
  generalize V.heap.size = n2 at *
  have c0 := bx0.c0
  have d0 := bx0.c1
  have l0 := bx0.lt
  have c1 := bx1.c0
  have d1 := bx1.c1
  have l1 := bx1.lt
  have c2 := bx2.c0
  have d2 := bx2.c1
  have l2 := bx2.lt
  refine (mirror_any _ a b n).mono ?_
  rintro e V ⟨rfl, hb⟩
  rw [E2.out.1, E2.out.2.1, E2.out.2.2.1]
  clear c0 d0 l0 c1 d1 l1 c2 d2 l2
  have bx0 := bx0.below hb
  have bx1 := bx1.below hb
  have bx2 := bx2.below hb
  have K := K.trans (hb.mono K.size)
  clear hb
  have bx0 := bx0.alloc (.cells #[.int .i64 (n - b), .int .i64 (n - a)] 23)
  have bx1 := bx1.alloc (.cells #[.int .i64 (n - b), .int .i64 (n - a)] 23)
  have bx2 := bx2.alloc (.cells #[.int .i64 (n - b), .int .i64 (n - a)] 23)
  have bx3 := Bx.new V (n - b) (n - a) 23
  have K := K.alloc K.size (.cells #[.int .i64 (n - b), .int .i64 (n - a)] 23)
  have c0 := bx0.c0
  have d0 := bx0.c1
  have l0 := bx0.lt
  have c1 := bx1.c0
  have d1 := bx1.c1
  have l1 := bx1.lt
  have c2 := bx2.c0
  have d2 := bx2.c1
  have l2 := bx2.lt
  have c3 := bx3.c0
  have d3 := bx3.c1
  have l3 := bx3.lt
  go_wp2_with fail
  clear c0 d0 l0 c1 d1 l1 c2 d2 l2 c3 d3 l3
  have SZ3 := Lib.hid (show (V.alloc (.cells #[.int .i64 (n - b), .int .i64 (n - a)] 23)).heap.size = V.heap.size + 1 by simp)
  generalize (V.alloc (.cells #[.int .i64 (n - b), .int .i64 (n - a)] 23)) = W4 at *
  generalize V.heap.size = n3 at *
  have c0 := bx0.c0
  have d0 := bx0.c1
  have l0 := bx0.lt
  have c1 := bx1.c0
  have d1 := bx1.c1
  have l1 := bx1.lt
  have c2 := bx2.c0
  have d2 := bx2.c1
  have l2 := bx2.lt
  have c3 := bx3.c0
  have d3 := bx3.c1
  have l3 := bx3.lt
  refine (rmirror_any _ a b n).mono ?_
  rintro e V ⟨rfl, hb⟩
  rw [E2.out.1, E2.out.2.1, E2.out.2.2.1]
  clear c0 d0 l0 c1 d1 l1 c2 d2 l2 c3 d3 l3
  have bx0 := bx0.below hb
  have bx1 := bx1.below hb
  have bx2 := bx2.below hb
  have bx3 := bx3.below hb
  have K := K.trans (hb.mono K.size)
  clear hb
  have bx0 := bx0.alloc (.cells #[.int .i64 (n - b), .int .i64 (n - a)] 23)
  have bx1 := bx1.alloc (.cells #[.int .i64 (n - b), .int .i64 (n - a)] 23)
  have bx2 := bx2.alloc (.cells #[.int .i64 (n - b), .int .i64 (n - a)] 23)
  have bx3 := bx3.alloc (.cells #[.int .i64 (n - b), .int .i64 (n - a)] 23)
  have bx4 := Bx.new V (n - b) (n - a) 23
  have K := K.alloc K.size (.cells #[.int .i64 (n - b), .int .i64 (n - a)] 23)
  have c0 := bx0.c0
  have d0 := bx0.c1
  have l0 := bx0.lt
  have c1 := bx1.c0
  have d1 := bx1.c1
  have l1 := bx1.lt
  have c2 := bx2.c0
  have d2 := bx2.c1
  have l2 := bx2.lt
  have c3 := bx3.c0
  have d3 := bx3.c1
  have l3 := bx3.lt
  have c4 := bx4.c0
  have d4 := bx4.c1
  have l4 := bx4.lt
  go_wp2_with fail
  clear c0 d0 l0 c1 d1 l1 c2 d2 l2 c3 d3 l3 c4 d4 l4
  have SZ4 := Lib.hid (show (V.alloc (.cells #[.int .i64 (n - b), .int .i64 (n - a)] 23)).heap.size = V.heap.size + 1 by simp)
  generalize (V.alloc (.cells #[.int .i64 (n - b), .int .i64 (n - a)] 23)) = W5 at *
  generalize V.heap.size = n4 at *
  have c0 := bx0.c0
  have d0 := bx0.c1
  have l0 := bx0.lt
  have c1 := bx1.c0
  have d1 := bx1.c1
  have l1 := bx1.lt
  have c2 := bx2.c0
  have d2 := bx2.c1
  have l2 := bx2.lt
  have c3 := bx3.c0
  have d3 := bx3.c1
  have l3 := bx3.lt
  have c4 := bx4.c0
  have d4 := bx4.c1
  have l4 := bx4.lt
  refine (mirror_any _ (n - b) (n - a) n).mono ?_
  rintro e V ⟨rfl, hb⟩
  rw [E2.out.2.2.2.1, E2.out.2.2.2.2.1, E2.out.2.2.2.2.2]
  clear c0 d0 l0 c1 d1 l1 c2 d2 l2 c3 d3 l3 c4 d4 l4
  have bx0 := bx0.below hb
  have bx1 := bx1.below hb
  have bx2 := bx2.below hb
  have bx3 := bx3.below hb
  have bx4 := bx4.below hb
  have K := K.trans (hb.mono K.size)
  clear hb
  have bx0 := bx0.alloc (.cells #[.int .i64 a, .int .i64 b] 23)
  have bx1 := bx1.alloc (.cells #[.int .i64 a, .int .i64 b] 23)
  have bx2 := bx2.alloc (.cells #[.int .i64 a, .int .i64 b] 23)
  have bx3 := bx3.alloc (.cells #[.int .i64 a, .int .i64 b] 23)
  have bx4 := bx4.alloc (.cells #[.int .i64 a, .int .i64 b] 23)
  have bx5 := Bx.new V a b 23
  have K := K.alloc K.size (.cells #[.int .i64 a, .int .i64 b] 23)
  have c0 := bx0.c0
  have d0 := bx0.c1
  have l0 := bx0.lt
  have c1 := bx1.c0
  have d1 := bx1.c1
  have l1 := bx1.lt
  have c2 := bx2.c0
  have d2 := bx2.c1
  have l2 := bx2.lt
  have c3 := bx3.c0
  have d3 := bx3.c1
  have l3 := bx3.lt
  have c4 := bx4.c0
  have d4 := bx4.c1
  have l4 := bx4.lt
  have c5 := bx5.c0
  have d5 := bx5.c1
  have l5 := bx5.lt
  go_wp2_with fail
  clear c0 d0 l0 c1 d1 l1 c2 d2 l2 c3 d3 l3 c4 d4 l4 c5 d5 l5
  have SZ5 := Lib.hid (show (V.alloc (.cells #[.int .i64 a, .int .i64 b] 23)).heap.size = V.heap.size + 1 by simp)
  generalize (V.alloc (.cells #[.int .i64 a, .int .i64 b] 23)) = W6 at *
  generalize V.heap.size = n5 at *
  have c0 := bx0.c0
  have d0 := bx0.c1
  have l0 := bx0.lt
  have c1 := bx1.c0
  have d1 := bx1.c1
  have l1 := bx1.lt
  have c2 := bx2.c0
  have d2 := bx2.c1
  have l2 := bx2.lt
  have c3 := bx3.c0
  have d3 := bx3.c1
  have l3 := bx3.lt
  have c4 := bx4.c0
  have d4 := bx4.c1
  have l4 := bx4.lt
  have c5 := bx5.c0
  have d5 := bx5.c1
  have l5 := bx5.lt
  refine (live_any _).mono ?_
  rintro e V ⟨rfl, hb⟩
  clear c0 d0 l0 c1 d1 l1 c2 d2 l2 c3 d3 l3 c4 d4 l4 c5 d5 l5
  have bx0 := bx0.below hb
  have bx1 := bx1.below hb
  have bx2 := bx2.below hb
  have bx3 := bx3.below hb
  have bx4 := bx4.below hb
  have bx5 := bx5.below hb
  have K := K.trans (hb.mono K.size)
  clear hb
  generalize V = W7 at *
  have c0 := bx0.c0
  have d0 := bx0.c1
  have l0 := bx0.lt
  have c1 := bx1.c0
  have d1 := bx1.c1
  have l1 := bx1.lt
  have c2 := bx2.c0
  have d2 := bx2.c1
  have l2 := bx2.lt
  have c3 := bx3.c0
  have d3 := bx3.c1
  have l3 := bx3.lt
  have c4 := bx4.c0
  have d4 := bx4.c1
  have l4 := bx4.lt
  have c5 := bx5.c0
  have d5 := bx5.c1
  have l5 := bx5.lt
  go_wp2_with fail
  go_ret
  exact ⟨rfl, K⟩

set_option maxHeartbeats 1000000 in
theorem moves_nn (w : World) (a b n : Int) (h1 : ¬ shE a b n = 0) (h2 : ¬ miE a b n = 0) : Calls Try.prog 8 #[sp a b, .int .i64 n] w (PV (.bool true) w) := by
  have E1 := Lib.hid (show shF a b n = 0 ∧ shT a b n = 0 by simp [shF, shT, h1])
  have z1 : (shE a b n == 0) = false := by simpa using h1
  have E2 := Lib.hid (show miF a b n = 0 ∧ miT a b n = 0 by simp [miF, miT, h2])
  have z2 : (miE a b n == 0) = false := by simpa using h2
  clear h1 h2
  go_enter Try.func8, Try.ntmps8
  go_wp2_with fail
  have K : Below w.heap.size w (w.alloc (.cells #[.int .i64 a, .int .i64 b] 23)) := ((Below.refl _ _).alloc (Nat.le_refl _) _)
  have bx0 : Bx (w.alloc (.cells #[.int .i64 a, .int .i64 b] 23)) (w.heap.size) a b := (Bx.new' (W := w) (n := w.heap.size) (by simp) a b 23)
  generalize (w.alloc (.cells #[.int .i64 a, .int .i64 b] 23)) = W1 at *
  have c0 := bx0.c0
  have d0 := bx0.c1
  have l0 := bx0.lt
  refine (shift_any _ a b n).mono ?_
  rintro e V ⟨rfl, hb⟩
  rw [E1.out.1, E1.out.2]
  clear c0 d0 l0
  have bx0 := bx0.below hb
  have K := K.trans (hb.mono K.size)
  clear hb
  have bx0 := bx0.alloc (.cells #[.int .i64 0, .int .i64 0] 23)
  have bx1 := Bx.new V 0 0 23
  have K := K.alloc K.size (.cells #[.int .i64 0, .int .i64 0] 23)
  have c0 := bx0.c0
  have d0 := bx0.c1
  have l0 := bx0.lt
  have c1 := bx1.c0
  have d1 := bx1.c1
  have l1 := bx1.lt
  go_wp2_with fail
  clear c0 d0 l0 c1 d1 l1
  have SZ1 := Lib.hid (show (V.alloc (.cells #[.int .i64 0, .int .i64 0] 23)).heap.size = V.heap.size + 1 by simp)
  generalize (V.alloc (.cells #[.int .i64 0, .int .i64 0] 23)) = W2 at *
  generalize V.heap.size = n1 at *
  have c0 := bx0.c0
  have d0 := bx0.c1
  have l0 := bx0.lt
  have c1 := bx1.c0
  have d1 := bx1.c1
  have l1 := bx1.lt
  refine (rshift_any _ a b n).mono ?_
  rintro e V ⟨rfl, hb⟩
  rw [E1.out.1, E1.out.2]
  clear c0 d0 l0 c1 d1 l1
  have bx0 := bx0.below hb
  have bx1 := bx1.below hb
  have K := K.trans (hb.mono K.size)
  clear hb
  have bx0 := bx0.alloc (.cells #[.int .i64 0, .int .i64 0] 23)
  have bx1 := bx1.alloc (.cells #[.int .i64 0, .int .i64 0] 23)
  have bx2 := Bx.new V 0 0 23
  have K := K.alloc K.size (.cells #[.int .i64 0, .int .i64 0] 23)
  have c0 := bx0.c0
  have d0 := bx0.c1
  have l0 := bx0.lt
  have c1 := bx1.c0
  have d1 := bx1.c1
  have l1 := bx1.lt
  have c2 := bx2.c0
  have d2 := bx2.c1
  have l2 := bx2.lt
  go_wp2_with fail
  clear c0 d0 l0 c1 d1 l1 c2 d2 l2
  have SZ2 := Lib.hid (show (V.alloc (.cells #[.int .i64 0, .int .i64 0] 23)).heap.size = V.heap.size + 1 by simp)
  generalize (V.alloc (.cells #[.int .i64 0, .int .i64 0] 23)) = W3 at *
  generalize V.heap.size = n2 at *
  have c0 := bx0.c0
  have d0 := bx0.c1
  have l0 := bx0.lt
  have c1 := bx1.c0
  have d1 := bx1.c1
  have l1 := bx1.lt
  have c2 := bx2.c0
  have d2 := bx2.c1
  have l2 := bx2.lt
  refine (mirror_any _ a b n).mono ?_
  rintro e V ⟨rfl, hb⟩
  rw [E2.out.1, E2.out.2]
  clear c0 d0 l0 c1 d1 l1 c2 d2 l2
  have bx0 := bx0.below hb
  have bx1 := bx1.below hb
  have bx2 := bx2.below hb
  have K := K.trans (hb.mono K.size)
  clear hb
  have bx0 := bx0.alloc (.cells #[.int .i64 0, .int .i64 0] 23)
  have bx1 := bx1.alloc (.cells #[.int .i64 0, .int .i64 0] 23)
  have bx2 := bx2.alloc (.cells #[.int .i64 0, .int .i64 0] 23)
  have bx3 := Bx.new V 0 0 23
  have K := K.alloc K.size (.cells #[.int .i64 0, .int .i64 0] 23)
  have c0 := bx0.c0
  have d0 := bx0.c1
  have l0 := bx0.lt
  have c1 := bx1.c0
  have d1 := bx1.c1
  have l1 := bx1.lt
  have c2 := bx2.c0
  have d2 := bx2.c1
  have l2 := bx2.lt
  have c3 := bx3.c0
  have d3 := bx3.c1
  have l3 := bx3.lt
  go_wp2_with fail
  clear c0 d0 l0 c1 d1 l1 c2 d2 l2 c3 d3 l3
  have SZ3 := Lib.hid (show (V.alloc (.cells #[.int .i64 0, .int .i64 0] 23)).heap.size = V.heap.size + 1 by simp)
  generalize (V.alloc (.cells #[.int .i64 0, .int .i64 0] 23)) = W4 at *
  generalize V.heap.size = n3 at *
  have c0 := bx0.c0
  have d0 := bx0.c1
  have l0 := bx0.lt
  have c1 := bx1.c0
  have d1 := bx1.c1
  have l1 := bx1.lt
  have c2 := bx2.c0
  have d2 := bx2.c1
  have l2 := bx2.lt
  have c3 := bx3.c0
  have d3 := bx3.c1
  have l3 := bx3.lt
  refine (rmirror_any _ a b n).mono ?_
  rintro e V ⟨rfl, hb⟩
  rw [E2.out.1, E2.out.2]
  clear c0 d0 l0 c1 d1 l1 c2 d2 l2 c3 d3 l3
  have bx0 := bx0.below hb
  have bx1 := bx1.below hb
  have bx2 := bx2.below hb
  have bx3 := bx3.below hb
  have K := K.trans (hb.mono K.size)
  clear hb
  have bx0 := bx0.alloc (.cells #[.int .i64 0, .int .i64 0] 23)
  have bx1 := bx1.alloc (.cells #[.int .i64 0, .int .i64 0] 23)
  have bx2 := bx2.alloc (.cells #[.int .i64 0, .int .i64 0] 23)
  have bx3 := bx3.alloc (.cells #[.int .i64 0, .int .i64 0] 23)
  have bx4 := Bx.new V 0 0 23
  have K := K.alloc K.size (.cells #[.int .i64 0, .int .i64 0] 23)
  have c0 := bx0.c0
  have d0 := bx0.c1
  have l0 := bx0.lt
  have c1 := bx1.c0
  have d1 := bx1.c1
  have l1 := bx1.lt
  have c2 := bx2.c0
  have d2 := bx2.c1
  have l2 := bx2.lt
  have c3 := bx3.c0
  have d3 := bx3.c1
  have l3 := bx3.lt
  have c4 := bx4.c0
  have d4 := bx4.c1
  have l4 := bx4.lt
  go_wp2_with fail
  clear c0 d0 l0 c1 d1 l1 c2 d2 l2 c3 d3 l3 c4 d4 l4
  have SZ4 := Lib.hid (show (V.alloc (.cells #[.int .i64 0, .int .i64 0] 23)).heap.size = V.heap.size + 1 by simp)
  generalize (V.alloc (.cells #[.int .i64 0, .int .i64 0] 23)) = W5 at *
  generalize V.heap.size = n4 at *
  have c0 := bx0.c0
  have d0 := bx0.c1
  have l0 := bx0.lt
  have c1 := bx1.c0
  have d1 := bx1.c1
  have l1 := bx1.lt
  have c2 := bx2.c0
  have d2 := bx2.c1
  have l2 := bx2.lt
  have c3 := bx3.c0
  have d3 := bx3.c1
  have l3 := bx3.lt
  have c4 := bx4.c0
  have d4 := bx4.c1
  have l4 := bx4.lt
  refine (live_any _).mono ?_
  rintro e V ⟨rfl, hb⟩
  clear c0 d0 l0 c1 d1 l1 c2 d2 l2 c3 d3 l3 c4 d4 l4
  have bx0 := bx0.below hb
  have bx1 := bx1.below hb
  have bx2 := bx2.below hb
  have bx3 := bx3.below hb
  have bx4 := bx4.below hb
  have K := K.trans (hb.mono K.size)
  clear hb
  generalize V = W6 at *
  have c0 := bx0.c0
  have d0 := bx0.c1
  have l0 := bx0.lt
  have c1 := bx1.c0
  have d1 := bx1.c1
  have l1 := bx1.lt
  have c2 := bx2.c0
  have d2 := bx2.c1
  have l2 := bx2.lt
  have c3 := bx3.c0
  have d3 := bx3.c1
  have l3 := bx3.lt
  have c4 := bx4.c0
  have d4 := bx4.c1
  have l4 := bx4.lt
  go_wp2_with fail
  go_ret
  exact ⟨rfl, K⟩

theorem moves_law (w : World) (a b n : Int) : Calls Try.prog 8 #[sp a b, .int .i64 n] w (PV (.bool true) w) := by
  by_cases h1 : shE a b n = 0 <;> by_cases h2 : miE a b n = 0
  · exact moves_yy w a b n h1 h2
  · exact moves_yn w a b n h1 h2
  · exact moves_ny w a b n h1 h2
  · exact moves_nn w a b n h1 h2

end Go.Proofs.Ytghlkpaadahpaaa
