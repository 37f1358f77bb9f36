/- The walk of SpanRelates. -/
import Derived.Test.YtghlkpaadahpaaaH
import Derived.Test.YtghlkpaadahpaaaI
import Derived.Test.YtghlkpaadahpaaaN
namespace Go.Proofs.Ytghlkpaadahpaaa
open Go.RowKit Fl

set_option maxHeartbeats 1000000 in
theorem relates_no (w : World) (a b c d : Int) (h : mayB a b = false ∨ mayB c d = false) : Calls Try.prog 3 #[sp a b, sp c d] w (PV (.bool true) w) := by
  have E : Hid (rlN a b c d = 0 ∧ rlE a b c d = 14 ∧ rlN c d a b = 0 ∧ rlE c d a b = 14) := by
    rcases h with h | h
    · exact ⟨(rl_no1 h).1, (rl_no1 h).2, (rl_no2 h).1, (rl_no2 h).2⟩
    · exact ⟨(rl_no2 h).1, (rl_no2 h).2, (rl_no1 h).1, (rl_no1 h).2⟩
  clear h
  go_enter Try.func3, Try.ntmps3
  go_wp2_with fail
  have K : Below w.heap.size w ((w.alloc (.cells #[.int .i64 a, .int .i64 b] 23)).alloc (.cells #[.int .i64 c, .int .i64 d] 23)) := (((Below.refl _ _).alloc (Nat.le_refl _) _).alloc (by first | omega | (simp; done) | (simp; omega)) _)
  have bx0 : Bx ((w.alloc (.cells #[.int .i64 a, .int .i64 b] 23)).alloc (.cells #[.int .i64 c, .int .i64 d] 23)) (w.heap.size) a b := ((Bx.new' (W := w) (n := w.heap.size) (by simp) a b 23).alloc _)
  have bx1 : Bx ((w.alloc (.cells #[.int .i64 a, .int .i64 b] 23)).alloc (.cells #[.int .i64 c, .int .i64 d] 23)) (w.heap.size + 1) c d := (Bx.new' (W := (w.alloc (.cells #[.int .i64 a, .int .i64 b] 23))) (n := w.heap.size + 1) (by simp) c d 23)
  generalize ((w.alloc (.cells #[.int .i64 a, .int .i64 b] 23)).alloc (.cells #[.int .i64 c, .int .i64 d] 23)) = W1 at *
  have c0 := bx0.c0
  have d0 := bx0.c1
  have l0 := bx0.lt
  have c1 := bx1.c0
  have d1 := bx1.c1
  have l1 := bx1.lt
  refine (relate_any _ a b c d).mono ?_
  rintro e V ⟨rfl, hb⟩
  rw [E.out.1, E.out.2.1]
  clear c0 d0 l0 c1 d1 l1
  have bx0 := bx0.below hb
  have bx1 := bx1.below hb
  have K := K.trans (hb.mono K.size)
  clear hb
  generalize V = W2 at *
  have c0 := bx0.c0
  have d0 := bx0.c1
  have l0 := bx0.lt
  have c1 := bx1.c0
  have d1 := bx1.c1
  have l1 := bx1.lt
  go_wp2_with fail
  refine (rrelate_any _ a b c d).mono ?_
  rintro e V ⟨rfl, hb⟩
  rw [E.out.1, E.out.2.1]
  clear c0 d0 l0 c1 d1 l1
  have bx0 := bx0.below hb
  have bx1 := bx1.below hb
  have K := K.trans (hb.mono K.size)
  clear hb
  generalize V = W3 at *
  have c0 := bx0.c0
  have d0 := bx0.c1
  have l0 := bx0.lt
  have c1 := bx1.c0
  have d1 := bx1.c1
  have l1 := bx1.lt
  go_wp2_with fail
  refine (relate_any _ c d a b).mono ?_
  rintro e V ⟨rfl, hb⟩
  rw [E.out.2.2.1, E.out.2.2.2]
  clear c0 d0 l0 c1 d1 l1
  have bx0 := bx0.below hb
  have bx1 := bx1.below hb
  have K := K.trans (hb.mono K.size)
  clear hb
  generalize V = W4 at *
  have c0 := bx0.c0
  have d0 := bx0.c1
  have l0 := bx0.lt
  have c1 := bx1.c0
  have d1 := bx1.c1
  have l1 := bx1.lt
  go_wp2_with fail
  refine (live_any _).mono ?_
  rintro e V ⟨rfl, hb⟩
  clear c0 d0 l0 c1 d1 l1
  have bx0 := bx0.below hb
  have bx1 := bx1.below hb
  have K := K.trans (hb.mono K.size)
  clear hb
  generalize V = W5 at *
  have c0 := bx0.c0
  have d0 := bx0.c1
  have l0 := bx0.lt
  have c1 := bx1.c0
  have d1 := bx1.c1
  have l1 := bx1.lt
  go_wp2_with fail
  go_ret
  exact ⟨rfl, K⟩

set_option maxHeartbeats 1000000 in
theorem relates_same (w : World) (a b : Int) (h : mayB a b = true) : Calls Try.prog 3 #[sp a b, sp a b] w (PV (.bool true) w) := by
  have k1 := may_iff.1 h
  have hr := rel7 (a := a) (b := b) (c := a) (d := b) (by omega) (by omega) (by omega) (by omega) rfl rfl
  have E : Hid (rlN a b a b = 7 ∧ rlE a b a b = 0 ∧ rlN a b a b = 7 ∧ rlE a b a b = 0) := ⟨by rw [(rl_yes h h).1]; exact hr, (rl_yes h h).2, by rw [(rl_yes h h).1]; exact hr, (rl_yes h h).2⟩
  clear hr h k1
  go_enter Try.func3, Try.ntmps3
  go_wp2_with fail
  have K : Below w.heap.size w ((w.alloc (.cells #[.int .i64 a, .int .i64 b] 23)).alloc (.cells #[.int .i64 a, .int .i64 b] 23)) := (((Below.refl _ _).alloc (Nat.le_refl _) _).alloc (by first | omega | (simp; done) | (simp; omega)) _)
  have bx0 : Bx ((w.alloc (.cells #[.int .i64 a, .int .i64 b] 23)).alloc (.cells #[.int .i64 a, .int .i64 b] 23)) (w.heap.size) a b := ((Bx.new' (W := w) (n := w.heap.size) (by simp) a b 23).alloc _)
  have bx1 : Bx ((w.alloc (.cells #[.int .i64 a, .int .i64 b] 23)).alloc (.cells #[.int .i64 a, .int .i64 b] 23)) (w.heap.size + 1) a b := (Bx.new' (W := (w.alloc (.cells #[.int .i64 a, .int .i64 b] 23))) (n := w.heap.size + 1) (by simp) a b 23)
  generalize ((w.alloc (.cells #[.int .i64 a, .int .i64 b] 23)).alloc (.cells #[.int .i64 a, .int .i64 b] 23)) = W1 at *
  have c0 := bx0.c0
  have d0 := bx0.c1
  have l0 := bx0.lt
  have c1 := bx1.c0
  have d1 := bx1.c1
  have l1 := bx1.lt
  refine (relate_any _ a b a b).mono ?_
  rintro e V ⟨rfl, hb⟩
  rw [E.out.1, E.out.2.1]
  clear c0 d0 l0 c1 d1 l1
  have bx0 := bx0.below hb
  have bx1 := bx1.below hb
  have K := K.trans (hb.mono K.size)
  clear hb
  generalize V = W2 at *
  have c0 := bx0.c0
  have d0 := bx0.c1
  have l0 := bx0.lt
  have c1 := bx1.c0
  have d1 := bx1.c1
  have l1 := bx1.lt
  go_wp2_with fail
  refine (rrelate_any _ a b a b).mono ?_
  rintro e V ⟨rfl, hb⟩
  rw [E.out.1, E.out.2.1]
  clear c0 d0 l0 c1 d1 l1
  have bx0 := bx0.below hb
  have bx1 := bx1.below hb
  have K := K.trans (hb.mono K.size)
  clear hb
  generalize V = W3 at *
  have c0 := bx0.c0
  have d0 := bx0.c1
  have l0 := bx0.lt
  have c1 := bx1.c0
  have d1 := bx1.c1
  have l1 := bx1.lt
  go_wp2_with fail
  refine (relate_any _ a b a b).mono ?_
  rintro e V ⟨rfl, hb⟩
  rw [E.out.2.2.1, E.out.2.2.2]
  clear c0 d0 l0 c1 d1 l1
  have bx0 := bx0.below hb
  have bx1 := bx1.below hb
  have K := K.trans (hb.mono K.size)
  clear hb
  generalize V = W4 at *
  have c0 := bx0.c0
  have d0 := bx0.c1
  have l0 := bx0.lt
  have c1 := bx1.c0
  have d1 := bx1.c1
  have l1 := bx1.lt
  go_wp2_with fail
  refine (live_any _).mono ?_
  rintro e V ⟨rfl, hb⟩
  clear c0 d0 l0 c1 d1 l1
  have bx0 := bx0.below hb
  have bx1 := bx1.below hb
  have K := K.trans (hb.mono K.size)
  clear hb
  generalize V = W5 at *
  have c0 := bx0.c0
  have d0 := bx0.c1
  have l0 := bx0.lt
  have c1 := bx1.c0
  have d1 := bx1.c1
  have l1 := bx1.lt
  go_wp2_with fail
  go_ret
  exact ⟨rfl, K⟩

set_option maxHeartbeats 1000000 in
theorem relates_left (w : World) (a b c d : Int) (h1 : mayB a b = true) (h2 : mayB c d = true) (h3 : ¬ a = c) : Calls Try.prog 3 #[sp a b, sp c d] w (PV (.bool true) w) := by
  obtain ⟨f1, f2, f3, f4⟩ := rel_facts h1 h2
  have f5 : ¬ relI a b c d = 7 := by rw [f4]; omega
  have E : Hid (rlN a b c d = relI a b c d ∧ rlE a b c d = 0 ∧ rlN c d a b = 14 - relI a b c d ∧ rlE c d a b = 0) := ⟨(rl_yes h1 h2).1, (rl_yes h1 h2).2, by rw [(rl_yes h2 h1).1]; exact f3, (rl_yes h2 h1).2⟩
  have f6 : (relI a b c d == 7) = false := by simpa using f5
  generalize relI a b c d = N at *
  clear h1 h2 f3 f4 f5
  have f7 : (a == c) = false := by simpa using h3
  go_enter Try.func3, Try.ntmps3
  go_wp2_with fail
  have K : Below w.heap.size w ((w.alloc (.cells #[.int .i64 a, .int .i64 b] 23)).alloc (.cells #[.int .i64 c, .int .i64 d] 23)) := (((Below.refl _ _).alloc (Nat.le_refl _) _).alloc (by first | omega | (simp; done) | (simp; omega)) _)
  have bx0 : Bx ((w.alloc (.cells #[.int .i64 a, .int .i64 b] 23)).alloc (.cells #[.int .i64 c, .int .i64 d] 23)) (w.heap.size) a b := ((Bx.new' (W := w) (n := w.heap.size) (by simp) a b 23).alloc _)
  have bx1 : Bx ((w.alloc (.cells #[.int .i64 a, .int .i64 b] 23)).alloc (.cells #[.int .i64 c, .int .i64 d] 23)) (w.heap.size + 1) c d := (Bx.new' (W := (w.alloc (.cells #[.int .i64 a, .int .i64 b] 23))) (n := w.heap.size + 1) (by simp) c d 23)
  generalize ((w.alloc (.cells #[.int .i64 a, .int .i64 b] 23)).alloc (.cells #[.int .i64 c, .int .i64 d] 23)) = W1 at *
  have c0 := bx0.c0
  have d0 := bx0.c1
  have l0 := bx0.lt
  have c1 := bx1.c0
  have d1 := bx1.c1
  have l1 := bx1.lt
  refine (relate_any _ a b c d).mono ?_
  rintro e V ⟨rfl, hb⟩
  rw [E.out.1, E.out.2.1]
  clear c0 d0 l0 c1 d1 l1
  have bx0 := bx0.below hb
  have bx1 := bx1.below hb
  have K := K.trans (hb.mono K.size)
  clear hb
  generalize V = W2 at *
  have c0 := bx0.c0
  have d0 := bx0.c1
  have l0 := bx0.lt
  have c1 := bx1.c0
  have d1 := bx1.c1
  have l1 := bx1.lt
  go_wp2_with fail
  refine (rrelate_any _ a b c d).mono ?_
  rintro e V ⟨rfl, hb⟩
  rw [E.out.1, E.out.2.1]
  clear c0 d0 l0 c1 d1 l1
  have bx0 := bx0.below hb
  have bx1 := bx1.below hb
  have K := K.trans (hb.mono K.size)
  clear hb
  generalize V = W3 at *
  have c0 := bx0.c0
  have d0 := bx0.c1
  have l0 := bx0.lt
  have c1 := bx1.c0
  have d1 := bx1.c1
  have l1 := bx1.lt
  go_wp2_with fail
  refine (relate_any _ c d a b).mono ?_
  rintro e V ⟨rfl, hb⟩
  rw [E.out.2.2.1, E.out.2.2.2]
  clear c0 d0 l0 c1 d1 l1
  have bx0 := bx0.below hb
  have bx1 := bx1.below hb
  have K := K.trans (hb.mono K.size)
  clear hb
  generalize V = W4 at *
  have c0 := bx0.c0
  have d0 := bx0.c1
  have l0 := bx0.lt
  have c1 := bx1.c0
  have d1 := bx1.c1
  have l1 := bx1.lt
  go_wp2_with fail
  refine (live_any _).mono ?_
  rintro e V ⟨rfl, hb⟩
  clear c0 d0 l0 c1 d1 l1
  have bx0 := bx0.below hb
  have bx1 := bx1.below hb
  have K := K.trans (hb.mono K.size)
  clear hb
  generalize V = W5 at *
  have c0 := bx0.c0
  have d0 := bx0.c1
  have l0 := bx0.lt
  have c1 := bx1.c0
  have d1 := bx1.c1
  have l1 := bx1.lt
  go_wp2_with fail
  go_ret
  exact ⟨rfl, K⟩

set_option maxHeartbeats 1000000 in
theorem relates_right (w : World) (a b d : Int) (h1 : mayB a b = true) (h2 : mayB a d = true) (h3 : ¬ b = d) : Calls Try.prog 3 #[sp a b, sp a d] w (PV (.bool true) w) := by
  obtain ⟨f1, f2, f3, f4⟩ := rel_facts h1 h2
  have f5 : ¬ relI a b a d = 7 := by rw [f4]; omega
  have E : Hid (rlN a b a d = relI a b a d ∧ rlE a b a d = 0 ∧ rlN a d a b = 14 - relI a b a d ∧ rlE a d a b = 0) := ⟨(rl_yes h1 h2).1, (rl_yes h1 h2).2, by rw [(rl_yes h2 h1).1]; exact f3, (rl_yes h2 h1).2⟩
  have f6 : (relI a b a d == 7) = false := by simpa using f5
  generalize relI a b a d = N at *
  clear h1 h2 f3 f4 f5
  have f7 : (b == d) = false := by simpa using h3
  go_enter Try.func3, Try.ntmps3
  go_wp2_with fail
  have K : Below w.heap.size w ((w.alloc (.cells #[.int .i64 a, .int .i64 b] 23)).alloc (.cells #[.int .i64 a, .int .i64 d] 23)) := (((Below.refl _ _).alloc (Nat.le_refl _) _).alloc (by first | omega | (simp; done) | (simp; omega)) _)
  have bx0 : Bx ((w.alloc (.cells #[.int .i64 a, .int .i64 b] 23)).alloc (.cells #[.int .i64 a, .int .i64 d] 23)) (w.heap.size) a b := ((Bx.new' (W := w) (n := w.heap.size) (by simp) a b 23).alloc _)
  have bx1 : Bx ((w.alloc (.cells #[.int .i64 a, .int .i64 b] 23)).alloc (.cells #[.int .i64 a, .int .i64 d] 23)) (w.heap.size + 1) a d := (Bx.new' (W := (w.alloc (.cells #[.int .i64 a, .int .i64 b] 23))) (n := w.heap.size + 1) (by simp) a d 23)
  generalize ((w.alloc (.cells #[.int .i64 a, .int .i64 b] 23)).alloc (.cells #[.int .i64 a, .int .i64 d] 23)) = W1 at *
  have c0 := bx0.c0
  have d0 := bx0.c1
  have l0 := bx0.lt
  have c1 := bx1.c0
  have d1 := bx1.c1
  have l1 := bx1.lt
  refine (relate_any _ a b a d).mono ?_
  rintro e V ⟨rfl, hb⟩
  rw [E.out.1, E.out.2.1]
  clear c0 d0 l0 c1 d1 l1
  have bx0 := bx0.below hb
  have bx1 := bx1.below hb
  have K := K.trans (hb.mono K.size)
  clear hb
  generalize V = W2 at *
  have c0 := bx0.c0
  have d0 := bx0.c1
  have l0 := bx0.lt
  have c1 := bx1.c0
  have d1 := bx1.c1
  have l1 := bx1.lt
  go_wp2_with fail
  refine (rrelate_any _ a b a d).mono ?_
  rintro e V ⟨rfl, hb⟩
  rw [E.out.1, E.out.2.1]
  clear c0 d0 l0 c1 d1 l1
  have bx0 := bx0.below hb
  have bx1 := bx1.below hb
  have K := K.trans (hb.mono K.size)
  clear hb
  generalize V = W3 at *
  have c0 := bx0.c0
  have d0 := bx0.c1
  have l0 := bx0.lt
  have c1 := bx1.c0
  have d1 := bx1.c1
  have l1 := bx1.lt
  go_wp2_with fail
  refine (relate_any _ a d a b).mono ?_
  rintro e V ⟨rfl, hb⟩
  rw [E.out.2.2.1, E.out.2.2.2]
  clear c0 d0 l0 c1 d1 l1
  have bx0 := bx0.below hb
  have bx1 := bx1.below hb
  have K := K.trans (hb.mono K.size)
  clear hb
  generalize V = W4 at *
  have c0 := bx0.c0
  have d0 := bx0.c1
  have l0 := bx0.lt
  have c1 := bx1.c0
  have d1 := bx1.c1
  have l1 := bx1.lt
  go_wp2_with fail
  refine (live_any _).mono ?_
  rintro e V ⟨rfl, hb⟩
  clear c0 d0 l0 c1 d1 l1
  have bx0 := bx0.below hb
  have bx1 := bx1.below hb
  have K := K.trans (hb.mono K.size)
  clear hb
  generalize V = W5 at *
  have c0 := bx0.c0
  have d0 := bx0.c1
  have l0 := bx0.lt
  have c1 := bx1.c0
  have d1 := bx1.c1
  have l1 := bx1.lt
  go_wp2_with fail
  go_ret
  exact ⟨rfl, K⟩

theorem relates_law (w : World) (a b c d : Int) : Calls Try.prog 3 #[sp a b, sp c d] w (PV (.bool true) w) := by
  cases h1 : mayB a b with
  | false => exact relates_no w a b c d (.inl h1)
  | true =>
    cases h2 : mayB c d with
    | false => exact relates_no w a b c d (.inr h2)
    | true =>
      by_cases h3 : a = c
      · subst h3
        by_cases h4 : b = d
        · subst h4
          exact relates_same w a b h1
        · exact relates_right w a b d h1 h2 h4
      · exact relates_left w a b c d h1 h2 h3

end Go.Proofs.Ytghlkpaadahpaaa
