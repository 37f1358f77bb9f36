/- The walk of SpanMakes. -/
import Derived.Test.YtghlkpaadahpaaaH
import Derived.Test.YtghlkpaadahpaaaI
namespace Go.Proofs.Ytghlkpaadahpaaa
open Go.RowKit Fl

set_option maxHeartbeats 1000000 in
theorem makes_yes (w : World) (f t u : Int) (h : mayB f t = true) : Calls Try.prog 4 #[.int .i64 f, .int .i64 t, .int .i64 u] w (PV (.bool true) w) := by
  obtain ⟨g0, g1, g2, g3, g4⟩ := may_iff.1 h
  have h1 : tickB f = true := by rw [tick_iff]; omega
  have h2 : tickB t = true := by rw [tick_iff]; omega
  have e1 : mkE f t = 0 := by simp [mkE, h1, h2, g4]
  have e2 : mkF f t = f := by simp [mkF, e1]
  have e3 : mkT f t = t := by simp [mkT, e1]
  have e4 : lenI f t = t - f := by simp [lenI, h]
  have E := Lib.hid (And.intro e1 (And.intro e2 e3))
  clear e1 e2 e3 h1 h2
  go_enter Try.func4, Try.ntmps4
  have K : Below w.heap.size w w := Below.refl _ _
  go_wp2_with fail
  refine (make_any _ f t).mono ?_
  rintro e V ⟨rfl, hb⟩
  rw [E.out.1, E.out.2.1, E.out.2.2]
  have K := K.trans (hb.mono K.size)
  clear hb
  have bx0 := Bx.new V f t 23
  have K := K.alloc K.size (.cells #[.int .i64 f, .int .i64 t] 23)
  have c0 := bx0.c0
  have d0 := bx0.c1
  have l0 := bx0.lt
  go_wp2_with fail
  clear c0 d0 l0
  have SZ0 := Lib.hid (show (V.alloc (.cells #[.int .i64 f, .int .i64 t] 23)).heap.size = V.heap.size + 1 by simp)
  generalize (V.alloc (.cells #[.int .i64 f, .int .i64 t] 23)) = W1 at *
  generalize V.heap.size = n0 at *
  have c0 := bx0.c0
  have d0 := bx0.c1
  have l0 := bx0.lt
  refine (rmake_any _ f t).mono ?_
  rintro e V ⟨rfl, hb⟩
  rw [E.out.1, E.out.2.1, E.out.2.2]
  clear c0 d0 l0
  have bx0 := bx0.below hb
  have K := K.trans (hb.mono K.size)
  clear hb
  have bx0 := bx0.alloc (.cells #[.int .i64 f, .int .i64 t] 23)
  have bx1 := Bx.new V f t 23
  have K := K.alloc K.size (.cells #[.int .i64 f, .int .i64 t] 23)
  have c0 := bx0.c0
  have d0 := bx0.c1
  have l0 := bx0.lt
  have c1 := bx1.c0
  have d1 := bx1.c1
  have l1 := bx1.lt
  go_wp2_with fail
  clear c0 d0 l0 c1 d1 l1
  have SZ1 := Lib.hid (show (V.alloc (.cells #[.int .i64 f, .int .i64 t] 23)).heap.size = V.heap.size + 1 by simp)
  generalize (V.alloc (.cells #[.int .i64 f, .int .i64 t] 23)) = W2 at *
  generalize V.heap.size = n1 at *
  have c0 := bx0.c0
  have d0 := bx0.c1
  have l0 := bx0.lt
  have c1 := bx1.c0
  have d1 := bx1.c1
  have l1 := bx1.lt
  clear c0 d0 l0 c1 d1 l1
  have bx2 : Bx (W2.alloc (.cells #[.int .i64 f, .int .i64 t] 23)) (n1 + 1) f t := Bx.new' SZ1.out f t 23
  have bx0 := bx0.alloc (.cells #[.int .i64 f, .int .i64 t] 23)
  have bx1 := bx1.alloc (.cells #[.int .i64 f, .int .i64 t] 23)
  have K := K.alloc K.size (.cells #[.int .i64 f, .int .i64 t] 23)
  clear SZ0 SZ1
  generalize (W2.alloc (.cells #[.int .i64 f, .int .i64 t] 23)) = W3 at *
  generalize n1 + 1 = n2 at *
  have c0 := bx0.c0
  have d0 := bx0.c1
  have l0 := bx0.lt
  have c1 := bx1.c0
  have d1 := bx1.c1
  have l1 := bx1.lt
  have c2 := bx2.c0
  have d2 := bx2.c1
  have l2 := bx2.lt
  go_region_held3 (fun w' => w'.cell? ⟨n0, 0, none⟩ = some (.int .i64 f) ∧ w'.cell? ⟨n0, 1, none⟩ = some (.int .i64 t) ∧ w'.cell? ⟨n1, 0, none⟩ = some (.int .i64 f) ∧ w'.cell? ⟨n1, 1, none⟩ = some (.int .i64 t) ∧ w'.cell? ⟨n2, 0, none⟩ = some (.int .i64 f) ∧ w'.cell? ⟨n2, 1, none⟩ = some (.int .i64 t))
    (first | exact ⟨(bx0).c0, (bx0).c1, (bx1).c0, (bx1).c1, (bx2).c0, (bx2).c1⟩ | exact ⟨(bx0.drew.below hb1).c0, (bx0.drew.below hb1).c1, (bx1.drew.below hb1).c0, (bx1.drew.below hb1).c1, (bx2.drew.below hb1).c0, (bx2.drew.below hb1).c1⟩ | exact ⟨((bx0.drew.below hb1).below hb2).c0, ((bx0.drew.below hb1).below hb2).c1, ((bx1.drew.below hb1).below hb2).c0, ((bx1.drew.below hb1).below hb2).c1, ((bx2.drew.below hb1).below hb2).c0, ((bx2.drew.below hb1).below hb2).c1⟩ | exact ⟨(((bx0.drew.below hb1).below hb2).below hb3).c0, (((bx0.drew.below hb1).below hb2).below hb3).c1, (((bx1.drew.below hb1).below hb2).below hb3).c0, (((bx1.drew.below hb1).below hb2).below hb3).c1, (((bx2.drew.below hb1).below hb2).below hb3).c0, (((bx2.drew.below hb1).below hb2).below hb3).c1⟩)
    (first | (go_at_call 15; (with_reducible refine (may_of _ f t _ h).mono ?_); rintro e V1 ⟨rfl, hb1⟩) | (go_at_call 16; (with_reducible refine (has_any _ f t u).mono ?_); rintro e V2 ⟨rfl, hb2⟩) | (go_at_call 17; (with_reducible refine (rhas_any _ f t u).mono ?_); rintro e V3 ⟨rfl, hb3⟩))
  clear c0 d0 l0 c1 d1 l1 c2 d2 l2
  have bx0 := ((bx0.drew.below hb1).below hb2).below hb3
  have bx1 := ((bx1.drew.below hb1).below hb2).below hb3
  have bx2 := ((bx2.drew.below hb1).below hb2).below hb3
  have K := K.drew
  have K := K.trans (hb1.mono K.size)
  have K := K.trans (hb2.mono K.size)
  have K := K.trans (hb3.mono K.size)
  clear hb1 hb2 hb3
  have c0 := bx0.c0
  have d0 := bx0.c1
  have l0 := bx0.lt
  have c1 := bx1.c0
  have d1 := bx1.c1
  have l1 := bx1.lt
  have c2 := bx2.c0
  have d2 := bx2.c1
  have l2 := bx2.lt
  go_wp2_with fail
  refine (live_any _).mono ?_
  rintro e V ⟨rfl, hb⟩
  clear c0 d0 l0 c1 d1 l1 c2 d2 l2
  have bx0 := bx0.below hb
  have bx1 := bx1.below hb
  have bx2 := bx2.below hb
  have K := K.trans (hb.mono K.size)
  clear hb
  generalize V = W4 at *
  have c0 := bx0.c0
  have d0 := bx0.c1
  have l0 := bx0.lt
  have c1 := bx1.c0
  have d1 := bx1.c1
  have l1 := bx1.lt
  have c2 := bx2.c0
  have d2 := bx2.c1
  have l2 := bx2.lt
  go_wp2_with fail
  refine (length_any _ f t).mono ?_
  rintro e V ⟨rfl, hb⟩
  clear c0 d0 l0 c1 d1 l1 c2 d2 l2
  have bx0 := bx0.below hb
  have bx1 := bx1.below hb
  have bx2 := bx2.below hb
  have K := K.trans (hb.mono K.size)
  clear hb
  generalize V = W5 at *
  have c0 := bx0.c0
  have d0 := bx0.c1
  have l0 := bx0.lt
  have c1 := bx1.c0
  have d1 := bx1.c1
  have l1 := bx1.lt
  have c2 := bx2.c0
  have d2 := bx2.c1
  have l2 := bx2.lt
  go_wp2_with fail
  go_ret
  exact ⟨rfl, K⟩

set_option maxHeartbeats 1000000 in
theorem makes_no (w : World) (f t u : Int) (h : mayB f t = false) : Calls Try.prog 4 #[.int .i64 f, .int .i64 t, .int .i64 u] w (PV (.bool true) w) := by
  have ez : ¬ mkE f t = 0 := by
    intro he
    rw [may_no] at h
    unfold mkE at he
    split at he
    · omega
    · rename_i hq
      split at he
      · omega
      · simp only [not_or, Bool.not_eq_false, tick_iff] at hq
        omega
  have e2 : mkF f t = 0 := by simp [mkF, ez]
  have e3 : mkT f t = 0 := by simp [mkT, ez]
  have e4 : lenI f t = 0 := by simp [lenI, h]
  have e5 : (mkE f t == 0) = false := by simpa using ez
  have E := Lib.hid (And.intro e2 e3)
  clear e2 e3 ez
  go_enter Try.func4, Try.ntmps4
  have K : Below w.heap.size w w := Below.refl _ _
  go_wp2_with fail
  refine (make_any _ f t).mono ?_
  rintro e V ⟨rfl, hb⟩
  rw [E.out.1, E.out.2]
  have K := K.trans (hb.mono K.size)
  clear hb
  have bx0 := Bx.new V 0 0 23
  have K := K.alloc K.size (.cells #[.int .i64 0, .int .i64 0] 23)
  have c0 := bx0.c0
  have d0 := bx0.c1
  have l0 := bx0.lt
  go_wp2_with fail
  clear c0 d0 l0
  have SZ0 := Lib.hid (show (V.alloc (.cells #[.int .i64 0, .int .i64 0] 23)).heap.size = V.heap.size + 1 by simp)
  generalize (V.alloc (.cells #[.int .i64 0, .int .i64 0] 23)) = W1 at *
  generalize V.heap.size = n0 at *
  have c0 := bx0.c0
  have d0 := bx0.c1
  have l0 := bx0.lt
  refine (rmake_any _ f t).mono ?_
  rintro e V ⟨rfl, hb⟩
  rw [E.out.1, E.out.2]
  clear c0 d0 l0
  have bx0 := bx0.below hb
  have K := K.trans (hb.mono K.size)
  clear hb
  have bx0 := bx0.alloc (.cells #[.int .i64 0, .int .i64 0] 23)
  have bx1 := Bx.new V 0 0 23
  have K := K.alloc K.size (.cells #[.int .i64 0, .int .i64 0] 23)
  have c0 := bx0.c0
  have d0 := bx0.c1
  have l0 := bx0.lt
  have c1 := bx1.c0
  have d1 := bx1.c1
  have l1 := bx1.lt
  go_wp2_with fail
  clear c0 d0 l0 c1 d1 l1
  have SZ1 := Lib.hid (show (V.alloc (.cells #[.int .i64 0, .int .i64 0] 23)).heap.size = V.heap.size + 1 by simp)
  generalize (V.alloc (.cells #[.int .i64 0, .int .i64 0] 23)) = W2 at *
  generalize V.heap.size = n1 at *
  have c0 := bx0.c0
  have d0 := bx0.c1
  have l0 := bx0.lt
  have c1 := bx1.c0
  have d1 := bx1.c1
  have l1 := bx1.lt
  clear c0 d0 l0 c1 d1 l1
  have bx2 : Bx (W2.alloc (.cells #[.int .i64 f, .int .i64 t] 23)) (n1 + 1) f t := Bx.new' SZ1.out f t 23
  have bx0 := bx0.alloc (.cells #[.int .i64 f, .int .i64 t] 23)
  have bx1 := bx1.alloc (.cells #[.int .i64 f, .int .i64 t] 23)
  have K := K.alloc K.size (.cells #[.int .i64 f, .int .i64 t] 23)
  clear SZ0 SZ1
  generalize (W2.alloc (.cells #[.int .i64 f, .int .i64 t] 23)) = W3 at *
  generalize n1 + 1 = n2 at *
  have c0 := bx0.c0
  have d0 := bx0.c1
  have l0 := bx0.lt
  have c1 := bx1.c0
  have d1 := bx1.c1
  have l1 := bx1.lt
  have c2 := bx2.c0
  have d2 := bx2.c1
  have l2 := bx2.lt
  go_region_held3 (fun w' => w'.cell? ⟨n0, 0, none⟩ = some (.int .i64 0) ∧ w'.cell? ⟨n0, 1, none⟩ = some (.int .i64 0) ∧ w'.cell? ⟨n1, 0, none⟩ = some (.int .i64 0) ∧ w'.cell? ⟨n1, 1, none⟩ = some (.int .i64 0) ∧ w'.cell? ⟨n2, 0, none⟩ = some (.int .i64 f) ∧ w'.cell? ⟨n2, 1, none⟩ = some (.int .i64 t))
    (first | exact ⟨(bx0).c0, (bx0).c1, (bx1).c0, (bx1).c1, (bx2).c0, (bx2).c1⟩ | exact ⟨(bx0.drew.below hb1).c0, (bx0.drew.below hb1).c1, (bx1.drew.below hb1).c0, (bx1.drew.below hb1).c1, (bx2.drew.below hb1).c0, (bx2.drew.below hb1).c1⟩ | exact ⟨((bx0.drew.below hb1).below hb2).c0, ((bx0.drew.below hb1).below hb2).c1, ((bx1.drew.below hb1).below hb2).c0, ((bx1.drew.below hb1).below hb2).c1, ((bx2.drew.below hb1).below hb2).c0, ((bx2.drew.below hb1).below hb2).c1⟩ | exact ⟨(((bx0.drew.below hb1).below hb2).below hb3).c0, (((bx0.drew.below hb1).below hb2).below hb3).c1, (((bx1.drew.below hb1).below hb2).below hb3).c0, (((bx1.drew.below hb1).below hb2).below hb3).c1, (((bx2.drew.below hb1).below hb2).below hb3).c0, (((bx2.drew.below hb1).below hb2).below hb3).c1⟩)
    (first | (go_at_call 15; (with_reducible refine (may_of _ f t _ h).mono ?_); rintro e V1 ⟨rfl, hb1⟩) | (go_at_call 16; (with_reducible refine (has_any _ f t u).mono ?_); rintro e V2 ⟨rfl, hb2⟩) | (go_at_call 17; (with_reducible refine (rhas_any _ f t u).mono ?_); rintro e V3 ⟨rfl, hb3⟩))
  clear c0 d0 l0 c1 d1 l1 c2 d2 l2
  have bx0 := ((bx0.drew.below hb1).below hb2).below hb3
  have bx1 := ((bx1.drew.below hb1).below hb2).below hb3
  have bx2 := ((bx2.drew.below hb1).below hb2).below hb3
  have K := K.drew
  have K := K.trans (hb1.mono K.size)
  have K := K.trans (hb2.mono K.size)
  have K := K.trans (hb3.mono K.size)
  clear hb1 hb2 hb3
  have c0 := bx0.c0
  have d0 := bx0.c1
  have l0 := bx0.lt
  have c1 := bx1.c0
  have d1 := bx1.c1
  have l1 := bx1.lt
  have c2 := bx2.c0
  have d2 := bx2.c1
  have l2 := bx2.lt
  go_wp2_with fail
  refine (live_any _).mono ?_
  rintro e V ⟨rfl, hb⟩
  clear c0 d0 l0 c1 d1 l1 c2 d2 l2
  have bx0 := bx0.below hb
  have bx1 := bx1.below hb
  have bx2 := bx2.below hb
  have K := K.trans (hb.mono K.size)
  clear hb
  generalize V = W4 at *
  have c0 := bx0.c0
  have d0 := bx0.c1
  have l0 := bx0.lt
  have c1 := bx1.c0
  have d1 := bx1.c1
  have l1 := bx1.lt
  have c2 := bx2.c0
  have d2 := bx2.c1
  have l2 := bx2.lt
  go_wp2_with fail
  refine (length_any _ f t).mono ?_
  rintro e V ⟨rfl, hb⟩
  clear c0 d0 l0 c1 d1 l1 c2 d2 l2
  have bx0 := bx0.below hb
  have bx1 := bx1.below hb
  have bx2 := bx2.below hb
  have K := K.trans (hb.mono K.size)
  clear hb
  generalize V = W5 at *
  have c0 := bx0.c0
  have d0 := bx0.c1
  have l0 := bx0.lt
  have c1 := bx1.c0
  have d1 := bx1.c1
  have l1 := bx1.lt
  have c2 := bx2.c0
  have d2 := bx2.c1
  have l2 := bx2.lt
  go_wp2_with fail
  go_ret
  exact ⟨rfl, K⟩

theorem makes_law (w : World) (f t u : Int) : Calls Try.prog 4 #[.int .i64 f, .int .i64 t, .int .i64 u] w (PV (.bool true) w) := by
  cases h : mayB f t with
  | true => exact makes_yes w f t u h
  | false => exact makes_no w f t u h
end Go.Proofs.Ytghlkpaadahpaaa
