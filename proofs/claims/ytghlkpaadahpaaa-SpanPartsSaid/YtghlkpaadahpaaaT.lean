/- The walk of SpanParts. -/
import Derived.Test.YtghlkpaadahpaaaH
import Derived.Test.YtghlkpaadahpaaaI
import Derived.Test.YtghlkpaadahpaaaB
import Derived.Test.YtghlkpaadahpaaaC
import Derived.Deep.RegionHeld3
import Derived.Deep.RegionWith
namespace Go.Proofs.Ytghlkpaadahpaaa
open Go.RowKit Fl

theorem has_of (w : World) (f t u : Int) (r : Bool) (h : hasB f t u = r) : Calls Try.prog 16 #[sp f t, .int .i64 u] w (PV (.bool r) w) := by
  rw [← h]; exact has_any w f t u

theorem has_zero (u : Int) : hasB 0 0 u = false := by
  have : mayB 0 0 = false := by decide
  simp [hasB, this]

theorem has_ahead (f t u v : Int) : hasB (ahF f t v) (ahT f t v) u = true ↔ hasB f t u = true ∧ u < v := by
  by_cases h : mayB f t = true ∧ f < v
  · obtain ⟨_, r2, r3⟩ := ah_yes h
    rw [r2, r3, has_iff, has_iff, may_iff, may_iff]
    have := may_iff.1 h.1
    omega
  · obtain ⟨_, r2, r3⟩ := ah_no h
    rw [r2, r3, has_zero, has_iff]
    simp only [Bool.false_eq_true, false_iff]
    intro ⟨⟨h1, h2, _⟩, h4⟩
    exact h ⟨h1, by omega⟩

theorem has_rest (f t u v : Int) : hasB (reF f t v) (reT f t v) u = true ↔ hasB f t u = true ∧ v ≤ u := by
  by_cases h : mayB f t = true ∧ v < t
  · obtain ⟨_, r2, r3⟩ := re_yes h
    rw [r2, r3, has_iff, has_iff, may_iff, may_iff]
    have := may_iff.1 h.1
    omega
  · obtain ⟨_, r2, r3⟩ := re_no h
    rw [r2, r3, has_zero, has_iff]
    simp only [Bool.false_eq_true, false_iff]
    intro ⟨⟨h1, h2, _⟩, h4⟩
    exact h ⟨h1, by omega⟩

theorem has_meet (a b c d u : Int) : hasB (mtF a b c d) (mtT a b c d) u = true ↔ hasB a b u = true ∧ hasB c d u = true := by
  cases h : meetB a b c d with
  | true =>
    have hm := meet_iff.1 h
    have e1 : mtF a b c d = max a c := by simp [mtF, h]
    have e2 : mtT a b c d = min b d := by simp [mtT, h]
    have k1 := may_iff.1 hm.1
    have k2 := may_iff.1 hm.2.1
    rw [e1, e2, has_iff, has_iff, has_iff, may_iff, may_iff, may_iff]
    omega
  | false =>
    have e1 : mtF a b c d = 0 := by simp [mtF, h]
    have e2 : mtT a b c d = 0 := by simp [mtT, h]
    rw [e1, e2, has_zero]
    simp only [Bool.false_eq_true, false_iff]
    intro ⟨h1, h2⟩
    rw [has_iff] at h1 h2
    have : meetB a b c d = true := meet_iff.2 ⟨h1.1, h2.1, by omega⟩
    rw [h] at this; cases this
theorem bool_no {b : Bool} {p : Prop} (h : b = true ↔ p) (hn : ¬ p) : b = false := by
  cases b with
  | false => rfl
  | true => exact absurd (h.1 rfl) hn

set_option maxHeartbeats 2000000 in
theorem parts_no (w : World) (a b c d t u : Int) (hA : hasB a b u = false) : Calls Try.prog 7 #[sp a b, sp c d, .int .i64 t, .int .i64 u] w (PV (.bool true) w) := by
  have hX : hasB (ahF a b t) (ahT a b t) u = false := bool_no (has_ahead a b u t) (by simp [hA])
  have hZ : hasB (reF a b t) (reT a b t) u = false := bool_no (has_rest a b u t) (by simp [hA])
  have hM : hasB (mtF a b c d) (mtT a b c d) u = false := bool_no (has_meet a b c d u) (by simp [hA])
  go_enter Try.func7, Try.ntmps7
  go_wp2_with fail
  have K : Below w.heap.size w ((w.alloc (.cells #[.int .i64 a, .int .i64 b] 23)).alloc (.cells #[.int .i64 c, .int .i64 d] 23)) := (((Below.refl _ _).alloc (Nat.le_refl _) _).alloc (by first | omega | (simp; done) | (simp; omega)) _)
  have bx0 : Bx ((w.alloc (.cells #[.int .i64 a, .int .i64 b] 23)).alloc (.cells #[.int .i64 c, .int .i64 d] 23)) (w.heap.size) a b := ((Bx.new' (W := w) (n := w.heap.size) (by simp) a b 23).alloc _)
  have bx1 : Bx ((w.alloc (.cells #[.int .i64 a, .int .i64 b] 23)).alloc (.cells #[.int .i64 c, .int .i64 d] 23)) (w.heap.size + 1) c d := (Bx.new' (W := (w.alloc (.cells #[.int .i64 a, .int .i64 b] 23))) (n := w.heap.size + 1) (by simp) c d 23)
  generalize ((w.alloc (.cells #[.int .i64 a, .int .i64 b] 23)).alloc (.cells #[.int .i64 c, .int .i64 d] 23)) = W1 at *
  have c0 := bx0.c0
  have d0 := bx0.c1
  have l0 := bx0.lt
  have c1 := bx1.c0
  have d1 := bx1.c1
  have l1 := bx1.lt
  refine (ahead_any _ a b t).mono ?_
  rintro e V ⟨rfl, hb⟩
  clear c0 d0 l0 c1 d1 l1
  have bx0 := bx0.below hb
  have bx1 := bx1.below hb
  have K := K.trans (hb.mono K.size)
  clear hb
  have bx0 := bx0.alloc (.cells #[.int .i64 (ahF a b t), .int .i64 (ahT a b t)] 23)
  have bx1 := bx1.alloc (.cells #[.int .i64 (ahF a b t), .int .i64 (ahT a b t)] 23)
  have bx2 := Bx.new V (ahF a b t) (ahT a b t) 23
  have K := K.alloc K.size (.cells #[.int .i64 (ahF a b t), .int .i64 (ahT a b t)] 23)
  have c0 := bx0.c0
  have d0 := bx0.c1
  have l0 := bx0.lt
  have c1 := bx1.c0
  have d1 := bx1.c1
  have l1 := bx1.lt
  have c2 := bx2.c0
  have d2 := bx2.c1
  have l2 := bx2.lt
  go_wp2_with fail
  clear c0 d0 l0 c1 d1 l1 c2 d2 l2
  have SZ2 := Lib.hid (show (V.alloc (.cells #[.int .i64 (ahF a b t), .int .i64 (ahT a b t)] 23)).heap.size = V.heap.size + 1 by simp)
  generalize (V.alloc (.cells #[.int .i64 (ahF a b t), .int .i64 (ahT a b t)] 23)) = W2 at *
  generalize V.heap.size = n2 at *
  have c0 := bx0.c0
  have d0 := bx0.c1
  have l0 := bx0.lt
  have c1 := bx1.c0
  have d1 := bx1.c1
  have l1 := bx1.lt
  have c2 := bx2.c0
  have d2 := bx2.c1
  have l2 := bx2.lt
  refine (rest_any _ a b t).mono ?_
  rintro e V ⟨rfl, hb⟩
  clear c0 d0 l0 c1 d1 l1 c2 d2 l2
  have bx0 := bx0.below hb
  have bx1 := bx1.below hb
  have bx2 := bx2.below hb
  have K := K.trans (hb.mono K.size)
  clear hb
  have bx0 := bx0.alloc (.cells #[.int .i64 (reF a b t), .int .i64 (reT a b t)] 23)
  have bx1 := bx1.alloc (.cells #[.int .i64 (reF a b t), .int .i64 (reT a b t)] 23)
  have bx2 := bx2.alloc (.cells #[.int .i64 (reF a b t), .int .i64 (reT a b t)] 23)
  have bx3 := Bx.new V (reF a b t) (reT a b t) 23
  have K := K.alloc K.size (.cells #[.int .i64 (reF a b t), .int .i64 (reT a b t)] 23)
  have c0 := bx0.c0
  have d0 := bx0.c1
  have l0 := bx0.lt
  have c1 := bx1.c0
  have d1 := bx1.c1
  have l1 := bx1.lt
  have c2 := bx2.c0
  have d2 := bx2.c1
  have l2 := bx2.lt
  have c3 := bx3.c0
  have d3 := bx3.c1
  have l3 := bx3.lt
  go_wp2_with fail
  clear c0 d0 l0 c1 d1 l1 c2 d2 l2 c3 d3 l3
  have SZ3 := Lib.hid (show (V.alloc (.cells #[.int .i64 (reF a b t), .int .i64 (reT a b t)] 23)).heap.size = V.heap.size + 1 by simp)
  generalize (V.alloc (.cells #[.int .i64 (reF a b t), .int .i64 (reT a b t)] 23)) = W3 at *
  generalize V.heap.size = n3 at *
  have c0 := bx0.c0
  have d0 := bx0.c1
  have l0 := bx0.lt
  have c1 := bx1.c0
  have d1 := bx1.c1
  have l1 := bx1.lt
  have c2 := bx2.c0
  have d2 := bx2.c1
  have l2 := bx2.lt
  have c3 := bx3.c0
  have d3 := bx3.c1
  have l3 := bx3.lt
  refine (meet_any _ a b c d).mono ?_
  rintro e V ⟨rfl, hb⟩
  clear c0 d0 l0 c1 d1 l1 c2 d2 l2 c3 d3 l3
  have bx0 := bx0.below hb
  have bx1 := bx1.below hb
  have bx2 := bx2.below hb
  have bx3 := bx3.below hb
  have K := K.trans (hb.mono K.size)
  clear hb
  have bx0 := bx0.alloc (.cells #[.int .i64 (mtF a b c d), .int .i64 (mtT a b c d)] 23)
  have bx1 := bx1.alloc (.cells #[.int .i64 (mtF a b c d), .int .i64 (mtT a b c d)] 23)
  have bx2 := bx2.alloc (.cells #[.int .i64 (mtF a b c d), .int .i64 (mtT a b c d)] 23)
  have bx3 := bx3.alloc (.cells #[.int .i64 (mtF a b c d), .int .i64 (mtT a b c d)] 23)
  have bx4 := Bx.new V (mtF a b c d) (mtT a b c d) 23
  have K := K.alloc K.size (.cells #[.int .i64 (mtF a b c d), .int .i64 (mtT a b c d)] 23)
  have c0 := bx0.c0
  have d0 := bx0.c1
  have l0 := bx0.lt
  have c1 := bx1.c0
  have d1 := bx1.c1
  have l1 := bx1.lt
  have c2 := bx2.c0
  have d2 := bx2.c1
  have l2 := bx2.lt
  have c3 := bx3.c0
  have d3 := bx3.c1
  have l3 := bx3.lt
  have c4 := bx4.c0
  have d4 := bx4.c1
  have l4 := bx4.lt
  go_wp2_with fail
  clear c0 d0 l0 c1 d1 l1 c2 d2 l2 c3 d3 l3 c4 d4 l4
  have SZ4 := Lib.hid (show (V.alloc (.cells #[.int .i64 (mtF a b c d), .int .i64 (mtT a b c d)] 23)).heap.size = V.heap.size + 1 by simp)
  generalize (V.alloc (.cells #[.int .i64 (mtF a b c d), .int .i64 (mtT a b c d)] 23)) = W4 at *
  generalize V.heap.size = n4 at *
  have c0 := bx0.c0
  have d0 := bx0.c1
  have l0 := bx0.lt
  have c1 := bx1.c0
  have d1 := bx1.c1
  have l1 := bx1.lt
  have c2 := bx2.c0
  have d2 := bx2.c1
  have l2 := bx2.lt
  have c3 := bx3.c0
  have d3 := bx3.c1
  have l3 := bx3.lt
  have c4 := bx4.c0
  have d4 := bx4.c1
  have l4 := bx4.lt
  refine wp_region_held_drew (S := (fun w' => w'.cell? ⟨w.heap.size, 0, none⟩ = some (.int .i64 a) ∧ w'.cell? ⟨w.heap.size, 1, none⟩ = some (.int .i64 b) ∧ w'.cell? ⟨n2, 0, none⟩ = some (.int .i64 (ahF a b t)) ∧ w'.cell? ⟨n2, 1, none⟩ = some (.int .i64 (ahT a b t)) ∧ w'.cell? ⟨n3, 0, none⟩ = some (.int .i64 (reF a b t)) ∧ w'.cell? ⟨n3, 1, none⟩ = some (.int .i64 (reT a b t)))) (by kernel_rfl) ⟨(bx0).c0, (bx0).c1, (bx2).c0, (bx2).c1, (bx3).c0, (bx3).c1⟩ (fun hHeld => ?_)
  refine wpAnyH_take (i := 0) (oi := _) (v := ?_) rfl (by kernel_rfl) (by kernel_rfl) (by kernel_rfl) (fun _ _ _ h => h) (Or.inl ⟨by rfl, ?_⟩) (by assumption) ?_
  rotate_left
  · (intro w hSw; (try dsimp only at hSw); simp only [List.getElem_toArray, List.getElem_cons_zero]; go_simp)
    try with_reducible rfl
  simp only [List.getElem_toArray, List.getElem_cons_zero, Act.put, List.setIfInBounds_toArray, List.set_cons_zero, List.set_cons_succ]
  refine wpAnyH_take (i := 1) (oi := _) (v := ?_) rfl (by kernel_rfl) (by kernel_rfl) (by kernel_rfl) (fun _ _ _ h => h) (Or.inl ⟨by rfl, ?_⟩) (by assumption) ?_
  rotate_left
  · (intro w hSw; (try dsimp only at hSw); simp only [List.getElem_toArray, List.getElem_cons_succ, List.getElem_cons_zero]; go_simp)
    try with_reducible rfl
  simp only [List.getElem_toArray, List.getElem_cons_succ, List.getElem_cons_zero, Act.put, List.setIfInBounds_toArray, List.set_cons_zero, List.set_cons_succ]
  refine wpAnyH_take (i := 3) (oi := _) (v := ?_) rfl (by kernel_rfl) (by kernel_rfl) (by kernel_rfl) (fun _ _ _ h => h) (Or.inl ⟨by rfl, ?_⟩) (by assumption) ?_
  rotate_left
  · (intro w hSw; (try dsimp only at hSw); simp only [List.getElem_toArray, List.getElem_cons_succ, List.getElem_cons_zero]; go_simp)
    try with_reducible rfl
  simp only [List.getElem_toArray, List.getElem_cons_succ, List.getElem_cons_zero, Act.put, List.setIfInBounds_toArray, List.set_cons_zero, List.set_cons_succ]
  refine wpAnyH_take (i := 4) (oi := _) (v := ?_) rfl (by kernel_rfl) (by kernel_rfl) (by kernel_rfl) (fun _ _ _ h => h) (Or.inl ⟨by rfl, ?_⟩) (by assumption) ?_
  rotate_left
  · (intro w hSw; (try dsimp only at hSw); simp only [List.getElem_toArray, List.getElem_cons_succ, List.getElem_cons_zero]; go_simp)
    try with_reducible rfl
  simp only [List.getElem_toArray, List.getElem_cons_succ, List.getElem_cons_zero, Act.put, List.setIfInBounds_toArray, List.set_cons_zero, List.set_cons_succ]
  refine wpAnyH_ready (rs := [2]) (by kernel_rfl) (by simp) ?_
  refine AllReadyH.cons (o := _) rfl (fun K hK => ?_) AllReadyH.nil
  simp only [List.getElem_toArray, List.getElem_cons_succ, List.getElem_cons_zero]
  go_simp
  refine (has_of _ (ahF a b t) (ahT a b t) u _ hX).mono ?_
  rintro e V1 ⟨rfl, hb1⟩
  refine hK.out _ _ ⟨((bx0.drew.below hb1)).c0, ((bx0.drew.below hb1)).c1, ((bx2.drew.below hb1)).c0, ((bx2.drew.below hb1)).c1, ((bx3.drew.below hb1)).c0, ((bx3.drew.below hb1)).c1⟩ (fun hHeld => ?_)
  clear hK K
  try simp only [List.getElem_toArray, List.getElem_cons_succ, List.getElem_cons_zero, Act.put, List.setIfInBounds_toArray, List.set_cons_zero, List.set_cons_succ]
  refine wpAnyH_ready (rs := [5]) (by kernel_rfl) (by simp) ?_
  refine AllReadyH.cons (o := _) rfl (fun K hK => ?_) AllReadyH.nil
  simp only [List.getElem_toArray, List.getElem_cons_succ, List.getElem_cons_zero]
  go_simp
  refine (has_of _ a b u _ hA).mono ?_
  rintro e V2 ⟨rfl, hb2⟩
  refine hK.out _ _ ⟨(((bx0.drew.below hb1).below hb2)).c0, (((bx0.drew.below hb1).below hb2)).c1, (((bx2.drew.below hb1).below hb2)).c0, (((bx2.drew.below hb1).below hb2)).c1, (((bx3.drew.below hb1).below hb2)).c0, (((bx3.drew.below hb1).below hb2)).c1⟩ (fun hHeld => ?_)
  clear hK K
  try simp only [List.getElem_toArray, List.getElem_cons_succ, List.getElem_cons_zero, Act.put, List.setIfInBounds_toArray, List.set_cons_zero, List.set_cons_succ]
  refine wpAnyH_take (i := 6) (oi := _) (v := ?_) rfl (by kernel_rfl) (by kernel_rfl) (by kernel_rfl) (fun _ _ _ h => h) (Or.inl ⟨by rfl, ?_⟩) (by assumption) ?_
  rotate_left
  · (intro w hSw; (try dsimp only at hSw); simp only [List.getElem_toArray, List.getElem_cons_succ, List.getElem_cons_zero]; go_simp)
    try with_reducible rfl
  simp only [List.getElem_toArray, List.getElem_cons_succ, List.getElem_cons_zero, Act.put, List.setIfInBounds_toArray, List.set_cons_zero, List.set_cons_succ]
  refine wpAnyH_take (i := 7) (oi := _) (v := undef) rfl (by kernel_rfl) (by kernel_rfl) (by kernel_rfl) (fun _ _ _ h => h) (Or.inr ⟨by rfl, rfl⟩) (by assumption) ?_
  simp only [List.getElem_toArray, List.getElem_cons_succ, List.getElem_cons_zero, Act.put, List.setIfInBounds_toArray, List.set_cons_zero, List.set_cons_succ]
  refine wpAnyH_take (i := 8) (oi := _) (v := undef) rfl (by kernel_rfl) (by kernel_rfl) (by kernel_rfl) (fun _ _ _ h => h) (Or.inr ⟨by rfl, rfl⟩) (by assumption) ?_
  simp only [List.getElem_toArray, List.getElem_cons_succ, List.getElem_cons_zero, Act.put, List.setIfInBounds_toArray, List.set_cons_zero, List.set_cons_succ]
  refine wpAnyH_take (i := 9) (oi := _) (v := undef) rfl (by kernel_rfl) (by kernel_rfl) (by kernel_rfl) (fun _ _ _ h => h) (Or.inr ⟨by rfl, rfl⟩) (by assumption) ?_
  simp only [List.getElem_toArray, List.getElem_cons_succ, List.getElem_cons_zero, Act.put, List.setIfInBounds_toArray, List.set_cons_zero, List.set_cons_succ]
  refine wpAnyH_take (i := 10) (oi := _) (v := ?_) rfl (by kernel_rfl) (by kernel_rfl) (by kernel_rfl) (fun _ _ _ h => h) (Or.inl ⟨by rfl, ?_⟩) (by assumption) ?_
  rotate_left
  · (intro w hSw; (try dsimp only at hSw); simp only [List.getElem_toArray, List.getElem_cons_succ, List.getElem_cons_zero]; go_simp)
    try with_reducible rfl
  simp only [List.getElem_toArray, List.getElem_cons_succ, List.getElem_cons_zero, Act.put, List.setIfInBounds_toArray, List.set_cons_zero, List.set_cons_succ]
  refine wpAnyH_take (i := 11) (oi := _) (v := ?_) rfl (by kernel_rfl) (by kernel_rfl) (by kernel_rfl) (fun _ _ _ h => h) (Or.inl ⟨by rfl, ?_⟩) (by assumption) ?_
  rotate_left
  · (intro w hSw; (try dsimp only at hSw); simp only [List.getElem_toArray, List.getElem_cons_succ, List.getElem_cons_zero]; go_simp)
    try with_reducible rfl
  simp only [List.getElem_toArray, List.getElem_cons_succ, List.getElem_cons_zero, Act.put, List.setIfInBounds_toArray, List.set_cons_zero, List.set_cons_succ]
  refine wpAnyH_take (i := 12) (oi := _) (v := ?_) rfl (by kernel_rfl) (by kernel_rfl) (by kernel_rfl) (fun _ _ _ h => h) (Or.inl ⟨by rfl, ?_⟩) (by assumption) ?_
  rotate_left
  · (intro w hSw; (try dsimp only at hSw); simp only [List.getElem_toArray, List.getElem_cons_succ, List.getElem_cons_zero]; go_simp)
    try with_reducible rfl
  simp only [List.getElem_toArray, List.getElem_cons_succ, List.getElem_cons_zero, Act.put, List.setIfInBounds_toArray, List.set_cons_zero, List.set_cons_succ]
  refine wpAnyH_take (i := 13) (oi := _) (v := ?_) rfl (by kernel_rfl) (by kernel_rfl) (by kernel_rfl) (fun _ _ _ h => h) (Or.inl ⟨by rfl, ?_⟩) (by assumption) ?_
  rotate_left
  · (intro w hSw; (try dsimp only at hSw); simp only [List.getElem_toArray, List.getElem_cons_succ, List.getElem_cons_zero]; go_simp)
    try with_reducible rfl
  simp only [List.getElem_toArray, List.getElem_cons_succ, List.getElem_cons_zero, Act.put, List.setIfInBounds_toArray, List.set_cons_zero, List.set_cons_succ]
  refine wpAnyH_take (i := 14) (oi := _) (v := ?_) rfl (by kernel_rfl) (by kernel_rfl) (by kernel_rfl) (fun _ _ _ h => h) (Or.inl ⟨by rfl, ?_⟩) (by assumption) ?_
  rotate_left
  · (intro w hSw; (try dsimp only at hSw); simp only [List.getElem_toArray, List.getElem_cons_succ, List.getElem_cons_zero]; go_simp)
    try with_reducible rfl
  simp only [List.getElem_toArray, List.getElem_cons_succ, List.getElem_cons_zero, Act.put, List.setIfInBounds_toArray, List.set_cons_zero, List.set_cons_succ]
  refine wpAnyH_take (i := 16) (oi := _) (v := ?_) rfl (by kernel_rfl) (by kernel_rfl) (by kernel_rfl) (fun _ _ _ h => h) (Or.inl ⟨by rfl, ?_⟩) (by assumption) ?_
  rotate_left
  · (intro w hSw; (try dsimp only at hSw); simp only [List.getElem_toArray, List.getElem_cons_succ, List.getElem_cons_zero]; go_simp)
    try with_reducible rfl
  simp only [List.getElem_toArray, List.getElem_cons_succ, List.getElem_cons_zero, Act.put, List.setIfInBounds_toArray, List.set_cons_zero, List.set_cons_succ]
  refine wpAnyH_take (i := 17) (oi := _) (v := ?_) rfl (by kernel_rfl) (by kernel_rfl) (by kernel_rfl) (fun _ _ _ h => h) (Or.inl ⟨by rfl, ?_⟩) (by assumption) ?_
  rotate_left
  · (intro w hSw; (try dsimp only at hSw); simp only [List.getElem_toArray, List.getElem_cons_succ, List.getElem_cons_zero]; go_simp)
    try with_reducible rfl
  simp only [List.getElem_toArray, List.getElem_cons_succ, List.getElem_cons_zero, Act.put, List.setIfInBounds_toArray, List.set_cons_zero, List.set_cons_succ]
  refine wpAnyH_ready (rs := [15]) (by kernel_rfl) (by simp) ?_
  refine AllReadyH.cons (o := _) rfl (fun K hK => ?_) AllReadyH.nil
  simp only [List.getElem_toArray, List.getElem_cons_succ, List.getElem_cons_zero]
  go_simp
  refine (has_of _ (reF a b t) (reT a b t) u _ hZ).mono ?_
  rintro e V3 ⟨rfl, hb3⟩
  refine hK.out _ _ ⟨((((bx0.drew.below hb1).below hb2).below hb3)).c0, ((((bx0.drew.below hb1).below hb2).below hb3)).c1, ((((bx2.drew.below hb1).below hb2).below hb3)).c0, ((((bx2.drew.below hb1).below hb2).below hb3)).c1, ((((bx3.drew.below hb1).below hb2).below hb3)).c0, ((((bx3.drew.below hb1).below hb2).below hb3)).c1⟩ (fun hHeld => ?_)
  clear hK K
  try simp only [List.getElem_toArray, List.getElem_cons_succ, List.getElem_cons_zero, Act.put, List.setIfInBounds_toArray, List.set_cons_zero, List.set_cons_succ]
  refine wpAnyH_ready (rs := [18]) (by kernel_rfl) (by simp) ?_
  refine AllReadyH.cons (o := _) rfl (fun K hK => ?_) AllReadyH.nil
  simp only [List.getElem_toArray, List.getElem_cons_succ, List.getElem_cons_zero]
  go_simp
  refine (has_of _ a b u _ hA).mono ?_
  rintro e V4 ⟨rfl, hb4⟩
  refine hK.out _ _ ⟨(((((bx0.drew.below hb1).below hb2).below hb3).below hb4)).c0, (((((bx0.drew.below hb1).below hb2).below hb3).below hb4)).c1, (((((bx2.drew.below hb1).below hb2).below hb3).below hb4)).c0, (((((bx2.drew.below hb1).below hb2).below hb3).below hb4)).c1, (((((bx3.drew.below hb1).below hb2).below hb3).below hb4)).c0, (((((bx3.drew.below hb1).below hb2).below hb3).below hb4)).c1⟩ (fun hHeld => ?_)
  clear hK K
  try simp only [List.getElem_toArray, List.getElem_cons_succ, List.getElem_cons_zero, Act.put, List.setIfInBounds_toArray, List.set_cons_zero, List.set_cons_succ]
  refine wpAnyH_take (i := 19) (oi := _) (v := ?_) rfl (by kernel_rfl) (by kernel_rfl) (by kernel_rfl) (fun _ _ _ h => h) (Or.inl ⟨by rfl, ?_⟩) (by assumption) ?_
  rotate_left
  · (intro w hSw; (try dsimp only at hSw); simp only [List.getElem_toArray, List.getElem_cons_succ, List.getElem_cons_zero]; go_simp)
    try with_reducible rfl
  simp only [List.getElem_toArray, List.getElem_cons_succ, List.getElem_cons_zero, Act.put, List.setIfInBounds_toArray, List.set_cons_zero, List.set_cons_succ]
  refine wpAnyH_take (i := 20) (oi := _) (v := undef) rfl (by kernel_rfl) (by kernel_rfl) (by kernel_rfl) (fun _ _ _ h => h) (Or.inr ⟨by rfl, rfl⟩) (by assumption) ?_
  simp only [List.getElem_toArray, List.getElem_cons_succ, List.getElem_cons_zero, Act.put, List.setIfInBounds_toArray, List.set_cons_zero, List.set_cons_succ]
  refine wpAnyH_take (i := 21) (oi := _) (v := undef) rfl (by kernel_rfl) (by kernel_rfl) (by kernel_rfl) (fun _ _ _ h => h) (Or.inr ⟨by rfl, rfl⟩) (by assumption) ?_
  simp only [List.getElem_toArray, List.getElem_cons_succ, List.getElem_cons_zero, Act.put, List.setIfInBounds_toArray, List.set_cons_zero, List.set_cons_succ]
  refine wpAnyH_take (i := 22) (oi := _) (v := undef) rfl (by kernel_rfl) (by kernel_rfl) (by kernel_rfl) (fun _ _ _ h => h) (Or.inr ⟨by rfl, rfl⟩) (by assumption) ?_
  simp only [List.getElem_toArray, List.getElem_cons_succ, List.getElem_cons_zero, Act.put, List.setIfInBounds_toArray, List.set_cons_zero, List.set_cons_succ]
  refine wpAnyH_take (i := 23) (oi := _) (v := ?_) rfl (by kernel_rfl) (by kernel_rfl) (by kernel_rfl) (fun _ _ _ h => h) (Or.inl ⟨by rfl, ?_⟩) (by assumption) ?_
  rotate_left
  · (intro w hSw; (try dsimp only at hSw); simp only [List.getElem_toArray, List.getElem_cons_succ, List.getElem_cons_zero]; go_simp)
    try with_reducible rfl
  simp only [List.getElem_toArray, List.getElem_cons_succ, List.getElem_cons_zero, Act.put, List.setIfInBounds_toArray, List.set_cons_zero, List.set_cons_succ]
  refine wpAnyH_take (i := 24) (oi := _) (v := ?_) rfl (by kernel_rfl) (by kernel_rfl) (by kernel_rfl) (fun _ _ _ h => h) (Or.inl ⟨by rfl, ?_⟩) (by assumption) ?_
  rotate_left
  · (intro w hSw; (try dsimp only at hSw); simp only [List.getElem_toArray, List.getElem_cons_succ, List.getElem_cons_zero]; go_simp)
    try with_reducible rfl
  simp only [List.getElem_toArray, List.getElem_cons_succ, List.getElem_cons_zero, Act.put, List.setIfInBounds_toArray, List.set_cons_zero, List.set_cons_succ]
  refine wpAnyH_take (i := 25) (oi := _) (v := ?_) rfl (by kernel_rfl) (by kernel_rfl) (by kernel_rfl) (fun _ _ _ h => h) (Or.inl ⟨by rfl, ?_⟩) (by assumption) ?_
  rotate_left
  · (intro w hSw; (try dsimp only at hSw); simp only [List.getElem_toArray, List.getElem_cons_succ, List.getElem_cons_zero]; go_simp)
    try with_reducible rfl
  simp only [List.getElem_toArray, List.getElem_cons_succ, List.getElem_cons_zero, Act.put, List.setIfInBounds_toArray, List.set_cons_zero, List.set_cons_succ]
  refine wpAnyH_done (by kernel_rfl) ?_ _
  clear c0 d0 l0 c1 d1 l1 c2 d2 l2 c3 d3 l3 c4 d4 l4
  have bx0 := ((((bx0.drew.below hb1).below hb2).below hb3).below hb4)
  have bx1 := ((((bx1.drew.below hb1).below hb2).below hb3).below hb4)
  have bx2 := ((((bx2.drew.below hb1).below hb2).below hb3).below hb4)
  have bx3 := ((((bx3.drew.below hb1).below hb2).below hb3).below hb4)
  have bx4 := ((((bx4.drew.below hb1).below hb2).below hb3).below hb4)
  have K := K.drew
  have K := K.trans (hb1.mono K.size)
  have K := K.trans (hb2.mono K.size)
  have K := K.trans (hb3.mono K.size)
  have K := K.trans (hb4.mono K.size)
  clear hb1 hb2 hb3 hb4
  generalize V4 = Y4 at *
  have c0 := bx0.c0
  have d0 := bx0.c1
  have l0 := bx0.lt
  have c1 := bx1.c0
  have d1 := bx1.c1
  have l1 := bx1.lt
  have c2 := bx2.c0
  have d2 := bx2.c1
  have l2 := bx2.lt
  have c3 := bx3.c0
  have d3 := bx3.c1
  have l3 := bx3.lt
  have c4 := bx4.c0
  have d4 := bx4.c1
  have l4 := bx4.lt
  go_wp2_with fail
  refine wp_region_held_drew (S := (fun w' => w'.cell? ⟨w.heap.size, 0, none⟩ = some (.int .i64 a) ∧ w'.cell? ⟨w.heap.size, 1, none⟩ = some (.int .i64 b) ∧ w'.cell? ⟨n4, 0, none⟩ = some (.int .i64 (mtF a b c d)) ∧ w'.cell? ⟨n4, 1, none⟩ = some (.int .i64 (mtT a b c d)))) (by kernel_rfl) ⟨(bx0).c0, (bx0).c1, (bx4).c0, (bx4).c1⟩ (fun hHeld => ?_)
  refine wpAnyH_ready (rs := [0]) (by kernel_rfl) (by simp) ?_
  refine AllReadyH.cons (o := _) rfl (fun K hK => ?_) AllReadyH.nil
  simp only [List.getElem_toArray, List.getElem_cons_zero]
  go_simp
  refine (live_any _).mono ?_
  rintro e V1 ⟨rfl, hb1⟩
  refine hK.out _ _ ⟨((bx0.drew.below hb1)).c0, ((bx0.drew.below hb1)).c1, ((bx4.drew.below hb1)).c0, ((bx4.drew.below hb1)).c1⟩ (fun hHeld => ?_)
  clear hK K
  try simp only [List.getElem_toArray, List.getElem_cons_succ, List.getElem_cons_zero, Act.put, List.setIfInBounds_toArray, List.set_cons_zero, List.set_cons_succ]
  refine wpAnyH_take (i := 1) (oi := _) (v := ?_) rfl (by kernel_rfl) (by kernel_rfl) (by kernel_rfl) (fun _ _ _ h => h) (Or.inl ⟨by rfl, ?_⟩) (by assumption) ?_
  rotate_left
  · (intro w hSw; (try dsimp only at hSw); simp only [List.getElem_toArray, List.getElem_cons_succ, List.getElem_cons_zero]; go_simp)
    try with_reducible rfl
  simp only [List.getElem_toArray, List.getElem_cons_succ, List.getElem_cons_zero, Act.put, List.setIfInBounds_toArray, List.set_cons_zero, List.set_cons_succ]
  refine wpAnyH_take (i := 2) (oi := _) (v := ?_) rfl (by kernel_rfl) (by kernel_rfl) (by kernel_rfl) (fun _ _ _ h => h) (Or.inl ⟨by rfl, ?_⟩) (by assumption) ?_
  rotate_left
  · (intro w hSw; (try dsimp only at hSw); simp only [List.getElem_toArray, List.getElem_cons_succ, List.getElem_cons_zero]; go_simp)
    try with_reducible rfl
  simp only [List.getElem_toArray, List.getElem_cons_succ, List.getElem_cons_zero, Act.put, List.setIfInBounds_toArray, List.set_cons_zero, List.set_cons_succ]
  refine wpAnyH_take (i := 3) (oi := _) (v := ?_) rfl (by kernel_rfl) (by kernel_rfl) (by kernel_rfl) (fun _ _ _ h => h) (Or.inl ⟨by rfl, ?_⟩) (by assumption) ?_
  rotate_left
  · (intro w hSw; (try dsimp only at hSw); simp only [List.getElem_toArray, List.getElem_cons_succ, List.getElem_cons_zero]; go_simp)
    try with_reducible rfl
  simp only [List.getElem_toArray, List.getElem_cons_succ, List.getElem_cons_zero, Act.put, List.setIfInBounds_toArray, List.set_cons_zero, List.set_cons_succ]
  refine wpAnyH_take (i := 5) (oi := _) (v := ?_) rfl (by kernel_rfl) (by kernel_rfl) (by kernel_rfl) (fun _ _ _ h => h) (Or.inl ⟨by rfl, ?_⟩) (by assumption) ?_
  rotate_left
  · (intro w hSw; (try dsimp only at hSw); simp only [List.getElem_toArray, List.getElem_cons_succ, List.getElem_cons_zero]; go_simp)
    try with_reducible rfl
  simp only [List.getElem_toArray, List.getElem_cons_succ, List.getElem_cons_zero, Act.put, List.setIfInBounds_toArray, List.set_cons_zero, List.set_cons_succ]
  refine wpAnyH_take (i := 6) (oi := _) (v := ?_) rfl (by kernel_rfl) (by kernel_rfl) (by kernel_rfl) (fun _ _ _ h => h) (Or.inl ⟨by rfl, ?_⟩) (by assumption) ?_
  rotate_left
  · (intro w hSw; (try dsimp only at hSw); simp only [List.getElem_toArray, List.getElem_cons_succ, List.getElem_cons_zero]; go_simp)
    try with_reducible rfl
  simp only [List.getElem_toArray, List.getElem_cons_succ, List.getElem_cons_zero, Act.put, List.setIfInBounds_toArray, List.set_cons_zero, List.set_cons_succ]
  refine wpAnyH_ready (rs := [4]) (by kernel_rfl) (by simp) ?_
  refine AllReadyH.cons (o := _) rfl (fun K hK => ?_) AllReadyH.nil
  simp only [List.getElem_toArray, List.getElem_cons_succ, List.getElem_cons_zero]
  go_simp
  refine (has_of _ (mtF a b c d) (mtT a b c d) u _ hM).mono ?_
  rintro e V2 ⟨rfl, hb2⟩
  refine hK.out _ _ ⟨(((bx0.drew.below hb1).below hb2)).c0, (((bx0.drew.below hb1).below hb2)).c1, (((bx4.drew.below hb1).below hb2)).c0, (((bx4.drew.below hb1).below hb2)).c1⟩ (fun hHeld => ?_)
  clear hK K
  try simp only [List.getElem_toArray, List.getElem_cons_succ, List.getElem_cons_zero, Act.put, List.setIfInBounds_toArray, List.set_cons_zero, List.set_cons_succ]
  refine wpAnyH_ready (rs := [7]) (by kernel_rfl) (by simp) ?_
  refine AllReadyH.cons (o := _) rfl (fun K hK => ?_) AllReadyH.nil
  simp only [List.getElem_toArray, List.getElem_cons_succ, List.getElem_cons_zero]
  go_simp
  refine (has_of _ a b u _ hA).mono ?_
  rintro e V3 ⟨rfl, hb3⟩
  refine hK.out _ _ ⟨((((bx0.drew.below hb1).below hb2).below hb3)).c0, ((((bx0.drew.below hb1).below hb2).below hb3)).c1, ((((bx4.drew.below hb1).below hb2).below hb3)).c0, ((((bx4.drew.below hb1).below hb2).below hb3)).c1⟩ (fun hHeld => ?_)
  clear hK K
  try simp only [List.getElem_toArray, List.getElem_cons_succ, List.getElem_cons_zero, Act.put, List.setIfInBounds_toArray, List.set_cons_zero, List.set_cons_succ]
  refine wpAnyH_take (i := 8) (oi := _) (v := ?_) rfl (by kernel_rfl) (by kernel_rfl) (by kernel_rfl) (fun _ _ _ h => h) (Or.inl ⟨by rfl, ?_⟩) (by assumption) ?_
  rotate_left
  · (intro w hSw; (try dsimp only at hSw); simp only [List.getElem_toArray, List.getElem_cons_succ, List.getElem_cons_zero]; go_simp)
    try with_reducible rfl
  simp only [List.getElem_toArray, List.getElem_cons_succ, List.getElem_cons_zero, Act.put, List.setIfInBounds_toArray, List.set_cons_zero, List.set_cons_succ]
  refine wpAnyH_take (i := 9) (oi := _) (v := undef) rfl (by kernel_rfl) (by kernel_rfl) (by kernel_rfl) (fun _ _ _ h => h) (Or.inr ⟨by rfl, rfl⟩) (by assumption) ?_
  simp only [List.getElem_toArray, List.getElem_cons_succ, List.getElem_cons_zero, Act.put, List.setIfInBounds_toArray, List.set_cons_zero, List.set_cons_succ]
  refine wpAnyH_take (i := 10) (oi := _) (v := undef) rfl (by kernel_rfl) (by kernel_rfl) (by kernel_rfl) (fun _ _ _ h => h) (Or.inr ⟨by rfl, rfl⟩) (by assumption) ?_
  simp only [List.getElem_toArray, List.getElem_cons_succ, List.getElem_cons_zero, Act.put, List.setIfInBounds_toArray, List.set_cons_zero, List.set_cons_succ]
  refine wpAnyH_take (i := 11) (oi := _) (v := undef) rfl (by kernel_rfl) (by kernel_rfl) (by kernel_rfl) (fun _ _ _ h => h) (Or.inr ⟨by rfl, rfl⟩) (by assumption) ?_
  simp only [List.getElem_toArray, List.getElem_cons_succ, List.getElem_cons_zero, Act.put, List.setIfInBounds_toArray, List.set_cons_zero, List.set_cons_succ]
  refine wpAnyH_take (i := 12) (oi := _) (v := ?_) rfl (by kernel_rfl) (by kernel_rfl) (by kernel_rfl) (fun _ _ _ h => h) (Or.inl ⟨by rfl, ?_⟩) (by assumption) ?_
  rotate_left
  · (intro w hSw; (try dsimp only at hSw); simp only [List.getElem_toArray, List.getElem_cons_succ, List.getElem_cons_zero]; go_simp)
    try with_reducible rfl
  simp only [List.getElem_toArray, List.getElem_cons_succ, List.getElem_cons_zero, Act.put, List.setIfInBounds_toArray, List.set_cons_zero, List.set_cons_succ]
  refine wpAnyH_take (i := 13) (oi := _) (v := ?_) rfl (by kernel_rfl) (by kernel_rfl) (by kernel_rfl) (fun _ _ _ h => h) (Or.inl ⟨by rfl, ?_⟩) (by assumption) ?_
  rotate_left
  · (intro w hSw; (try dsimp only at hSw); simp only [List.getElem_toArray, List.getElem_cons_succ, List.getElem_cons_zero]; go_simp)
    try with_reducible rfl
  simp only [List.getElem_toArray, List.getElem_cons_succ, List.getElem_cons_zero, Act.put, List.setIfInBounds_toArray, List.set_cons_zero, List.set_cons_succ]
  refine wpAnyH_take (i := 14) (oi := _) (v := ?_) rfl (by kernel_rfl) (by kernel_rfl) (by kernel_rfl) (fun _ _ _ h => h) (Or.inl ⟨by rfl, ?_⟩) (by assumption) ?_
  rotate_left
  · (intro w hSw; (try dsimp only at hSw); simp only [List.getElem_toArray, List.getElem_cons_succ, List.getElem_cons_zero]; go_simp)
    try with_reducible rfl
  simp only [List.getElem_toArray, List.getElem_cons_succ, List.getElem_cons_zero, Act.put, List.setIfInBounds_toArray, List.set_cons_zero, List.set_cons_succ]
  refine wpAnyH_take (i := 15) (oi := _) (v := ?_) rfl (by kernel_rfl) (by kernel_rfl) (by kernel_rfl) (fun _ _ _ h => h) (Or.inl ⟨by rfl, ?_⟩) (by assumption) ?_
  rotate_left
  · (intro w hSw; (try dsimp only at hSw); simp only [List.getElem_toArray, List.getElem_cons_succ, List.getElem_cons_zero]; go_simp)
    try with_reducible rfl
  simp only [List.getElem_toArray, List.getElem_cons_succ, List.getElem_cons_zero, Act.put, List.setIfInBounds_toArray, List.set_cons_zero, List.set_cons_succ]
  refine wpAnyH_done (by kernel_rfl) ?_ _
  clear c0 d0 l0 c1 d1 l1 c2 d2 l2 c3 d3 l3 c4 d4 l4
  have bx0 := (((bx0.drew.below hb1).below hb2).below hb3)
  have bx1 := (((bx1.drew.below hb1).below hb2).below hb3)
  have bx2 := (((bx2.drew.below hb1).below hb2).below hb3)
  have bx3 := (((bx3.drew.below hb1).below hb2).below hb3)
  have bx4 := (((bx4.drew.below hb1).below hb2).below hb3)
  have K := K.drew
  have K := K.trans (hb1.mono K.size)
  have K := K.trans (hb2.mono K.size)
  have K := K.trans (hb3.mono K.size)
  clear hb1 hb2 hb3
  generalize V3 = Y3 at *
  have c0 := bx0.c0
  have d0 := bx0.c1
  have l0 := bx0.lt
  have c1 := bx1.c0
  have d1 := bx1.c1
  have l1 := bx1.lt
  have c2 := bx2.c0
  have d2 := bx2.c1
  have l2 := bx2.lt
  have c3 := bx3.c0
  have d3 := bx3.c1
  have l3 := bx3.lt
  have c4 := bx4.c0
  have d4 := bx4.c1
  have l4 := bx4.lt
  go_wp2_with fail
  go_ret
  exact ⟨rfl, K⟩

set_option maxHeartbeats 2000000 in
theorem parts_lo (w : World) (a b c d t u : Int) (hA : hasB a b u = true) (hu : u < t) : Calls Try.prog 7 #[sp a b, sp c d, .int .i64 t, .int .i64 u] w (PV (.bool true) w) := by
  have hX : hasB (ahF a b t) (ahT a b t) u = true := (has_ahead a b u t).2 ⟨hA, hu⟩
  have hZ : hasB (reF a b t) (reT a b t) u = false := bool_no (has_rest a b u t) (by omega)
  have hd : decide (t ≤ u) = false := by simp; omega
  have hM : hasB (mtF a b c d) (mtT a b c d) u = hasB c d u := by
    rw [Bool.eq_iff_iff, has_meet]
    exact ⟨fun h => h.2, fun h => ⟨hA, h⟩⟩
  go_enter Try.func7, Try.ntmps7
  go_wp2_with fail
  have K : Below w.heap.size w ((w.alloc (.cells #[.int .i64 a, .int .i64 b] 23)).alloc (.cells #[.int .i64 c, .int .i64 d] 23)) := (((Below.refl _ _).alloc (Nat.le_refl _) _).alloc (by first | omega | (simp; done) | (simp; omega)) _)
  have bx0 : Bx ((w.alloc (.cells #[.int .i64 a, .int .i64 b] 23)).alloc (.cells #[.int .i64 c, .int .i64 d] 23)) (w.heap.size) a b := ((Bx.new' (W := w) (n := w.heap.size) (by simp) a b 23).alloc _)
  have bx1 : Bx ((w.alloc (.cells #[.int .i64 a, .int .i64 b] 23)).alloc (.cells #[.int .i64 c, .int .i64 d] 23)) (w.heap.size + 1) c d := (Bx.new' (W := (w.alloc (.cells #[.int .i64 a, .int .i64 b] 23))) (n := w.heap.size + 1) (by simp) c d 23)
  generalize ((w.alloc (.cells #[.int .i64 a, .int .i64 b] 23)).alloc (.cells #[.int .i64 c, .int .i64 d] 23)) = W1 at *
  have c0 := bx0.c0
  have d0 := bx0.c1
  have l0 := bx0.lt
  have c1 := bx1.c0
  have d1 := bx1.c1
  have l1 := bx1.lt
  refine (ahead_any _ a b t).mono ?_
  rintro e V ⟨rfl, hb⟩
  clear c0 d0 l0 c1 d1 l1
  have bx0 := bx0.below hb
  have bx1 := bx1.below hb
  have K := K.trans (hb.mono K.size)
  clear hb
  have bx0 := bx0.alloc (.cells #[.int .i64 (ahF a b t), .int .i64 (ahT a b t)] 23)
  have bx1 := bx1.alloc (.cells #[.int .i64 (ahF a b t), .int .i64 (ahT a b t)] 23)
  have bx2 := Bx.new V (ahF a b t) (ahT a b t) 23
  have K := K.alloc K.size (.cells #[.int .i64 (ahF a b t), .int .i64 (ahT a b t)] 23)
  have c0 := bx0.c0
  have d0 := bx0.c1
  have l0 := bx0.lt
  have c1 := bx1.c0
  have d1 := bx1.c1
  have l1 := bx1.lt
  have c2 := bx2.c0
  have d2 := bx2.c1
  have l2 := bx2.lt
  go_wp2_with fail
  clear c0 d0 l0 c1 d1 l1 c2 d2 l2
  have SZ2 := Lib.hid (show (V.alloc (.cells #[.int .i64 (ahF a b t), .int .i64 (ahT a b t)] 23)).heap.size = V.heap.size + 1 by simp)
  generalize (V.alloc (.cells #[.int .i64 (ahF a b t), .int .i64 (ahT a b t)] 23)) = W2 at *
  generalize V.heap.size = n2 at *
  have c0 := bx0.c0
  have d0 := bx0.c1
  have l0 := bx0.lt
  have c1 := bx1.c0
  have d1 := bx1.c1
  have l1 := bx1.lt
  have c2 := bx2.c0
  have d2 := bx2.c1
  have l2 := bx2.lt
  refine (rest_any _ a b t).mono ?_
  rintro e V ⟨rfl, hb⟩
  clear c0 d0 l0 c1 d1 l1 c2 d2 l2
  have bx0 := bx0.below hb
  have bx1 := bx1.below hb
  have bx2 := bx2.below hb
  have K := K.trans (hb.mono K.size)
  clear hb
  have bx0 := bx0.alloc (.cells #[.int .i64 (reF a b t), .int .i64 (reT a b t)] 23)
  have bx1 := bx1.alloc (.cells #[.int .i64 (reF a b t), .int .i64 (reT a b t)] 23)
  have bx2 := bx2.alloc (.cells #[.int .i64 (reF a b t), .int .i64 (reT a b t)] 23)
  have bx3 := Bx.new V (reF a b t) (reT a b t) 23
  have K := K.alloc K.size (.cells #[.int .i64 (reF a b t), .int .i64 (reT a b t)] 23)
  have c0 := bx0.c0
  have d0 := bx0.c1
  have l0 := bx0.lt
  have c1 := bx1.c0
  have d1 := bx1.c1
  have l1 := bx1.lt
  have c2 := bx2.c0
  have d2 := bx2.c1
  have l2 := bx2.lt
  have c3 := bx3.c0
  have d3 := bx3.c1
  have l3 := bx3.lt
  go_wp2_with fail
  clear c0 d0 l0 c1 d1 l1 c2 d2 l2 c3 d3 l3
  have SZ3 := Lib.hid (show (V.alloc (.cells #[.int .i64 (reF a b t), .int .i64 (reT a b t)] 23)).heap.size = V.heap.size + 1 by simp)
  generalize (V.alloc (.cells #[.int .i64 (reF a b t), .int .i64 (reT a b t)] 23)) = W3 at *
  generalize V.heap.size = n3 at *
  have c0 := bx0.c0
  have d0 := bx0.c1
  have l0 := bx0.lt
  have c1 := bx1.c0
  have d1 := bx1.c1
  have l1 := bx1.lt
  have c2 := bx2.c0
  have d2 := bx2.c1
  have l2 := bx2.lt
  have c3 := bx3.c0
  have d3 := bx3.c1
  have l3 := bx3.lt
  refine (meet_any _ a b c d).mono ?_
  rintro e V ⟨rfl, hb⟩
  clear c0 d0 l0 c1 d1 l1 c2 d2 l2 c3 d3 l3
  have bx0 := bx0.below hb
  have bx1 := bx1.below hb
  have bx2 := bx2.below hb
  have bx3 := bx3.below hb
  have K := K.trans (hb.mono K.size)
  clear hb
  have bx0 := bx0.alloc (.cells #[.int .i64 (mtF a b c d), .int .i64 (mtT a b c d)] 23)
  have bx1 := bx1.alloc (.cells #[.int .i64 (mtF a b c d), .int .i64 (mtT a b c d)] 23)
  have bx2 := bx2.alloc (.cells #[.int .i64 (mtF a b c d), .int .i64 (mtT a b c d)] 23)
  have bx3 := bx3.alloc (.cells #[.int .i64 (mtF a b c d), .int .i64 (mtT a b c d)] 23)
  have bx4 := Bx.new V (mtF a b c d) (mtT a b c d) 23
  have K := K.alloc K.size (.cells #[.int .i64 (mtF a b c d), .int .i64 (mtT a b c d)] 23)
  have c0 := bx0.c0
  have d0 := bx0.c1
  have l0 := bx0.lt
  have c1 := bx1.c0
  have d1 := bx1.c1
  have l1 := bx1.lt
  have c2 := bx2.c0
  have d2 := bx2.c1
  have l2 := bx2.lt
  have c3 := bx3.c0
  have d3 := bx3.c1
  have l3 := bx3.lt
  have c4 := bx4.c0
  have d4 := bx4.c1
  have l4 := bx4.lt
  go_wp2_with fail
  clear c0 d0 l0 c1 d1 l1 c2 d2 l2 c3 d3 l3 c4 d4 l4
  have SZ4 := Lib.hid (show (V.alloc (.cells #[.int .i64 (mtF a b c d), .int .i64 (mtT a b c d)] 23)).heap.size = V.heap.size + 1 by simp)
  generalize (V.alloc (.cells #[.int .i64 (mtF a b c d), .int .i64 (mtT a b c d)] 23)) = W4 at *
  generalize V.heap.size = n4 at *
  have c0 := bx0.c0
  have d0 := bx0.c1
  have l0 := bx0.lt
  have c1 := bx1.c0
  have d1 := bx1.c1
  have l1 := bx1.lt
  have c2 := bx2.c0
  have d2 := bx2.c1
  have l2 := bx2.lt
  have c3 := bx3.c0
  have d3 := bx3.c1
  have l3 := bx3.lt
  have c4 := bx4.c0
  have d4 := bx4.c1
  have l4 := bx4.lt
  refine wp_region_held_drew (S := (fun w' => w'.cell? ⟨w.heap.size, 0, none⟩ = some (.int .i64 a) ∧ w'.cell? ⟨w.heap.size, 1, none⟩ = some (.int .i64 b) ∧ w'.cell? ⟨n2, 0, none⟩ = some (.int .i64 (ahF a b t)) ∧ w'.cell? ⟨n2, 1, none⟩ = some (.int .i64 (ahT a b t)) ∧ w'.cell? ⟨n3, 0, none⟩ = some (.int .i64 (reF a b t)) ∧ w'.cell? ⟨n3, 1, none⟩ = some (.int .i64 (reT a b t)))) (by kernel_rfl) ⟨(bx0).c0, (bx0).c1, (bx2).c0, (bx2).c1, (bx3).c0, (bx3).c1⟩ (fun hHeld => ?_)
  refine wpAnyH_take (i := 0) (oi := _) (v := ?_) rfl (by kernel_rfl) (by kernel_rfl) (by kernel_rfl) (fun _ _ _ h => h) (Or.inl ⟨by rfl, ?_⟩) (by assumption) ?_
  rotate_left
  · (intro w hSw; (try dsimp only at hSw); simp only [List.getElem_toArray, List.getElem_cons_zero]; go_simp)
    try with_reducible rfl
  simp only [List.getElem_toArray, List.getElem_cons_zero, Act.put, List.setIfInBounds_toArray, List.set_cons_zero, List.set_cons_succ]
  refine wpAnyH_take (i := 1) (oi := _) (v := ?_) rfl (by kernel_rfl) (by kernel_rfl) (by kernel_rfl) (fun _ _ _ h => h) (Or.inl ⟨by rfl, ?_⟩) (by assumption) ?_
  rotate_left
  · (intro w hSw; (try dsimp only at hSw); simp only [List.getElem_toArray, List.getElem_cons_succ, List.getElem_cons_zero]; go_simp)
    try with_reducible rfl
  simp only [List.getElem_toArray, List.getElem_cons_succ, List.getElem_cons_zero, Act.put, List.setIfInBounds_toArray, List.set_cons_zero, List.set_cons_succ]
  refine wpAnyH_take (i := 3) (oi := _) (v := ?_) rfl (by kernel_rfl) (by kernel_rfl) (by kernel_rfl) (fun _ _ _ h => h) (Or.inl ⟨by rfl, ?_⟩) (by assumption) ?_
  rotate_left
  · (intro w hSw; (try dsimp only at hSw); simp only [List.getElem_toArray, List.getElem_cons_succ, List.getElem_cons_zero]; go_simp)
    try with_reducible rfl
  simp only [List.getElem_toArray, List.getElem_cons_succ, List.getElem_cons_zero, Act.put, List.setIfInBounds_toArray, List.set_cons_zero, List.set_cons_succ]
  refine wpAnyH_take (i := 4) (oi := _) (v := ?_) rfl (by kernel_rfl) (by kernel_rfl) (by kernel_rfl) (fun _ _ _ h => h) (Or.inl ⟨by rfl, ?_⟩) (by assumption) ?_
  rotate_left
  · (intro w hSw; (try dsimp only at hSw); simp only [List.getElem_toArray, List.getElem_cons_succ, List.getElem_cons_zero]; go_simp)
    try with_reducible rfl
  simp only [List.getElem_toArray, List.getElem_cons_succ, List.getElem_cons_zero, Act.put, List.setIfInBounds_toArray, List.set_cons_zero, List.set_cons_succ]
  refine wpAnyH_ready (rs := [2]) (by kernel_rfl) (by simp) ?_
  refine AllReadyH.cons (o := _) rfl (fun K hK => ?_) AllReadyH.nil
  simp only [List.getElem_toArray, List.getElem_cons_succ, List.getElem_cons_zero]
  go_simp
  refine (has_of _ (ahF a b t) (ahT a b t) u _ hX).mono ?_
  rintro e V1 ⟨rfl, hb1⟩
  refine hK.out _ _ ⟨((bx0.drew.below hb1)).c0, ((bx0.drew.below hb1)).c1, ((bx2.drew.below hb1)).c0, ((bx2.drew.below hb1)).c1, ((bx3.drew.below hb1)).c0, ((bx3.drew.below hb1)).c1⟩ (fun hHeld => ?_)
  clear hK K
  try simp only [List.getElem_toArray, List.getElem_cons_succ, List.getElem_cons_zero, Act.put, List.setIfInBounds_toArray, List.set_cons_zero, List.set_cons_succ]
  refine wpAnyH_ready (rs := [5]) (by kernel_rfl) (by simp) ?_
  refine AllReadyH.cons (o := _) rfl (fun K hK => ?_) AllReadyH.nil
  simp only [List.getElem_toArray, List.getElem_cons_succ, List.getElem_cons_zero]
  go_simp
  refine (has_of _ a b u _ hA).mono ?_
  rintro e V2 ⟨rfl, hb2⟩
  refine hK.out _ _ ⟨(((bx0.drew.below hb1).below hb2)).c0, (((bx0.drew.below hb1).below hb2)).c1, (((bx2.drew.below hb1).below hb2)).c0, (((bx2.drew.below hb1).below hb2)).c1, (((bx3.drew.below hb1).below hb2)).c0, (((bx3.drew.below hb1).below hb2)).c1⟩ (fun hHeld => ?_)
  clear hK K
  try simp only [List.getElem_toArray, List.getElem_cons_succ, List.getElem_cons_zero, Act.put, List.setIfInBounds_toArray, List.set_cons_zero, List.set_cons_succ]
  refine wpAnyH_take (i := 6) (oi := _) (v := ?_) rfl (by kernel_rfl) (by kernel_rfl) (by kernel_rfl) (fun _ _ _ h => h) (Or.inl ⟨by rfl, ?_⟩) (by assumption) ?_
  rotate_left
  · (intro w hSw; (try dsimp only at hSw); simp only [List.getElem_toArray, List.getElem_cons_succ, List.getElem_cons_zero]; go_simp)
    try with_reducible rfl
  simp only [List.getElem_toArray, List.getElem_cons_succ, List.getElem_cons_zero, Act.put, List.setIfInBounds_toArray, List.set_cons_zero, List.set_cons_succ]
  refine wpAnyH_take (i := 7) (oi := _) (v := ?_) rfl (by kernel_rfl) (by kernel_rfl) (by kernel_rfl) (fun _ _ _ h => h) (Or.inl ⟨by rfl, ?_⟩) (by assumption) ?_
  rotate_left
  · (intro w hSw; (try dsimp only at hSw); simp only [List.getElem_toArray, List.getElem_cons_succ, List.getElem_cons_zero]; go_simp)
    try with_reducible rfl
  simp only [List.getElem_toArray, List.getElem_cons_succ, List.getElem_cons_zero, Act.put, List.setIfInBounds_toArray, List.set_cons_zero, List.set_cons_succ]
  refine wpAnyH_take (i := 8) (oi := _) (v := ?_) rfl (by kernel_rfl) (by kernel_rfl) (by kernel_rfl) (fun _ _ _ h => h) (Or.inl ⟨by rfl, ?_⟩) (by assumption) ?_
  rotate_left
  · (intro w hSw; (try dsimp only at hSw); simp only [List.getElem_toArray, List.getElem_cons_succ, List.getElem_cons_zero]; go_simp)
    try with_reducible rfl
  simp only [List.getElem_toArray, List.getElem_cons_succ, List.getElem_cons_zero, Act.put, List.setIfInBounds_toArray, List.set_cons_zero, List.set_cons_succ]
  refine wpAnyH_take (i := 9) (oi := _) (v := ?_) rfl (by kernel_rfl) (by kernel_rfl) (by kernel_rfl) (fun _ _ _ h => h) (Or.inl ⟨by rfl, ?_⟩) (by assumption) ?_
  rotate_left
  · (intro w hSw; (try dsimp only at hSw); simp only [List.getElem_toArray, List.getElem_cons_succ, List.getElem_cons_zero]; go_simp)
    try with_reducible rfl
  simp only [List.getElem_toArray, List.getElem_cons_succ, List.getElem_cons_zero, Act.put, List.setIfInBounds_toArray, List.set_cons_zero, List.set_cons_succ]
  refine wpAnyH_take (i := 10) (oi := _) (v := ?_) rfl (by kernel_rfl) (by kernel_rfl) (by kernel_rfl) (fun _ _ _ h => h) (Or.inl ⟨by rfl, ?_⟩) (by assumption) ?_
  rotate_left
  · (intro w hSw; (try dsimp only at hSw); simp only [List.getElem_toArray, List.getElem_cons_succ, List.getElem_cons_zero]; go_simp)
    try with_reducible rfl
  simp only [List.getElem_toArray, List.getElem_cons_succ, List.getElem_cons_zero, Act.put, List.setIfInBounds_toArray, List.set_cons_zero, List.set_cons_succ]
  refine wpAnyH_take (i := 11) (oi := _) (v := ?_) rfl (by kernel_rfl) (by kernel_rfl) (by kernel_rfl) (fun _ _ _ h => h) (Or.inl ⟨by rfl, ?_⟩) (by assumption) ?_
  rotate_left
  · (intro w hSw; (try dsimp only at hSw); simp only [List.getElem_toArray, List.getElem_cons_succ, List.getElem_cons_zero]; go_simp)
    try with_reducible rfl
  simp only [List.getElem_toArray, List.getElem_cons_succ, List.getElem_cons_zero, Act.put, List.setIfInBounds_toArray, List.set_cons_zero, List.set_cons_succ]
  refine wpAnyH_take (i := 12) (oi := _) (v := ?_) rfl (by kernel_rfl) (by kernel_rfl) (by kernel_rfl) (fun _ _ _ h => h) (Or.inl ⟨by rfl, ?_⟩) (by assumption) ?_
  rotate_left
  · (intro w hSw; (try dsimp only at hSw); simp only [List.getElem_toArray, List.getElem_cons_succ, List.getElem_cons_zero]; go_simp)
    try with_reducible rfl
  simp only [List.getElem_toArray, List.getElem_cons_succ, List.getElem_cons_zero, Act.put, List.setIfInBounds_toArray, List.set_cons_zero, List.set_cons_succ]
  refine wpAnyH_take (i := 13) (oi := _) (v := ?_) rfl (by kernel_rfl) (by kernel_rfl) (by kernel_rfl) (fun _ _ _ h => h) (Or.inl ⟨by rfl, ?_⟩) (by assumption) ?_
  rotate_left
  · (intro w hSw; (try dsimp only at hSw); simp only [List.getElem_toArray, List.getElem_cons_succ, List.getElem_cons_zero]; go_simp)
    try with_reducible rfl
  simp only [List.getElem_toArray, List.getElem_cons_succ, List.getElem_cons_zero, Act.put, List.setIfInBounds_toArray, List.set_cons_zero, List.set_cons_succ]
  refine wpAnyH_take (i := 14) (oi := _) (v := ?_) rfl (by kernel_rfl) (by kernel_rfl) (by kernel_rfl) (fun _ _ _ h => h) (Or.inl ⟨by rfl, ?_⟩) (by assumption) ?_
  rotate_left
  · (intro w hSw; (try dsimp only at hSw); simp only [List.getElem_toArray, List.getElem_cons_succ, List.getElem_cons_zero]; go_simp)
    try with_reducible rfl
  simp only [List.getElem_toArray, List.getElem_cons_succ, List.getElem_cons_zero, Act.put, List.setIfInBounds_toArray, List.set_cons_zero, List.set_cons_succ]
  refine wpAnyH_take (i := 16) (oi := _) (v := ?_) rfl (by kernel_rfl) (by kernel_rfl) (by kernel_rfl) (fun _ _ _ h => h) (Or.inl ⟨by rfl, ?_⟩) (by assumption) ?_
  rotate_left
  · (intro w hSw; (try dsimp only at hSw); simp only [List.getElem_toArray, List.getElem_cons_succ, List.getElem_cons_zero]; go_simp)
    try with_reducible rfl
  simp only [List.getElem_toArray, List.getElem_cons_succ, List.getElem_cons_zero, Act.put, List.setIfInBounds_toArray, List.set_cons_zero, List.set_cons_succ]
  refine wpAnyH_take (i := 17) (oi := _) (v := ?_) rfl (by kernel_rfl) (by kernel_rfl) (by kernel_rfl) (fun _ _ _ h => h) (Or.inl ⟨by rfl, ?_⟩) (by assumption) ?_
  rotate_left
  · (intro w hSw; (try dsimp only at hSw); simp only [List.getElem_toArray, List.getElem_cons_succ, List.getElem_cons_zero]; go_simp)
    try with_reducible rfl
  simp only [List.getElem_toArray, List.getElem_cons_succ, List.getElem_cons_zero, Act.put, List.setIfInBounds_toArray, List.set_cons_zero, List.set_cons_succ]
  refine wpAnyH_ready (rs := [15]) (by kernel_rfl) (by simp) ?_
  refine AllReadyH.cons (o := _) rfl (fun K hK => ?_) AllReadyH.nil
  simp only [List.getElem_toArray, List.getElem_cons_succ, List.getElem_cons_zero]
  go_simp
  refine (has_of _ (reF a b t) (reT a b t) u _ hZ).mono ?_
  rintro e V3 ⟨rfl, hb3⟩
  refine hK.out _ _ ⟨((((bx0.drew.below hb1).below hb2).below hb3)).c0, ((((bx0.drew.below hb1).below hb2).below hb3)).c1, ((((bx2.drew.below hb1).below hb2).below hb3)).c0, ((((bx2.drew.below hb1).below hb2).below hb3)).c1, ((((bx3.drew.below hb1).below hb2).below hb3)).c0, ((((bx3.drew.below hb1).below hb2).below hb3)).c1⟩ (fun hHeld => ?_)
  clear hK K
  try simp only [List.getElem_toArray, List.getElem_cons_succ, List.getElem_cons_zero, Act.put, List.setIfInBounds_toArray, List.set_cons_zero, List.set_cons_succ]
  refine wpAnyH_ready (rs := [18]) (by kernel_rfl) (by simp) ?_
  refine AllReadyH.cons (o := _) rfl (fun K hK => ?_) AllReadyH.nil
  simp only [List.getElem_toArray, List.getElem_cons_succ, List.getElem_cons_zero]
  go_simp
  refine (has_of _ a b u _ hA).mono ?_
  rintro e V4 ⟨rfl, hb4⟩
  refine hK.out _ _ ⟨(((((bx0.drew.below hb1).below hb2).below hb3).below hb4)).c0, (((((bx0.drew.below hb1).below hb2).below hb3).below hb4)).c1, (((((bx2.drew.below hb1).below hb2).below hb3).below hb4)).c0, (((((bx2.drew.below hb1).below hb2).below hb3).below hb4)).c1, (((((bx3.drew.below hb1).below hb2).below hb3).below hb4)).c0, (((((bx3.drew.below hb1).below hb2).below hb3).below hb4)).c1⟩ (fun hHeld => ?_)
  clear hK K
  try simp only [List.getElem_toArray, List.getElem_cons_succ, List.getElem_cons_zero, Act.put, List.setIfInBounds_toArray, List.set_cons_zero, List.set_cons_succ]
  refine wpAnyH_take (i := 19) (oi := _) (v := ?_) rfl (by kernel_rfl) (by kernel_rfl) (by kernel_rfl) (fun _ _ _ h => h) (Or.inl ⟨by rfl, ?_⟩) (by assumption) ?_
  rotate_left
  · (intro w hSw; (try dsimp only at hSw); simp only [List.getElem_toArray, List.getElem_cons_succ, List.getElem_cons_zero]; go_simp)
    try with_reducible rfl
  simp only [List.getElem_toArray, List.getElem_cons_succ, List.getElem_cons_zero, Act.put, List.setIfInBounds_toArray, List.set_cons_zero, List.set_cons_succ]
  refine wpAnyH_take (i := 20) (oi := _) (v := ?_) rfl (by kernel_rfl) (by kernel_rfl) (by kernel_rfl) (fun _ _ _ h => h) (Or.inl ⟨by rfl, ?_⟩) (by assumption) ?_
  rotate_left
  · (intro w hSw; (try dsimp only at hSw); simp only [List.getElem_toArray, List.getElem_cons_succ, List.getElem_cons_zero]; go_simp)
    try with_reducible rfl
  simp only [List.getElem_toArray, List.getElem_cons_succ, List.getElem_cons_zero, Act.put, List.setIfInBounds_toArray, List.set_cons_zero, List.set_cons_succ]
  refine wpAnyH_take (i := 21) (oi := _) (v := ?_) rfl (by kernel_rfl) (by kernel_rfl) (by kernel_rfl) (fun _ _ _ h => h) (Or.inl ⟨by rfl, ?_⟩) (by assumption) ?_
  rotate_left
  · (intro w hSw; (try dsimp only at hSw); simp only [List.getElem_toArray, List.getElem_cons_succ, List.getElem_cons_zero]; go_simp)
    try with_reducible rfl
  simp only [List.getElem_toArray, List.getElem_cons_succ, List.getElem_cons_zero, Act.put, List.setIfInBounds_toArray, List.set_cons_zero, List.set_cons_succ]
  refine wpAnyH_take (i := 22) (oi := _) (v := ?_) rfl (by kernel_rfl) (by kernel_rfl) (by kernel_rfl) (fun _ _ _ h => h) (Or.inl ⟨by rfl, ?_⟩) (by assumption) ?_
  rotate_left
  · (intro w hSw; (try dsimp only at hSw); simp only [List.getElem_toArray, List.getElem_cons_succ, List.getElem_cons_zero]; go_simp)
    try with_reducible rfl
  simp only [List.getElem_toArray, List.getElem_cons_succ, List.getElem_cons_zero, Act.put, List.setIfInBounds_toArray, List.set_cons_zero, List.set_cons_succ]
  refine wpAnyH_take (i := 23) (oi := _) (v := ?_) rfl (by kernel_rfl) (by kernel_rfl) (by kernel_rfl) (fun _ _ _ h => h) (Or.inl ⟨by rfl, ?_⟩) (by assumption) ?_
  rotate_left
  · (intro w hSw; (try dsimp only at hSw); simp only [List.getElem_toArray, List.getElem_cons_succ, List.getElem_cons_zero]; go_simp)
    try with_reducible rfl
  simp only [List.getElem_toArray, List.getElem_cons_succ, List.getElem_cons_zero, Act.put, List.setIfInBounds_toArray, List.set_cons_zero, List.set_cons_succ]
  refine wpAnyH_take (i := 24) (oi := _) (v := ?_) rfl (by kernel_rfl) (by kernel_rfl) (by kernel_rfl) (fun _ _ _ h => h) (Or.inl ⟨by rfl, ?_⟩) (by assumption) ?_
  rotate_left
  · (intro w hSw; (try dsimp only at hSw); simp only [List.getElem_toArray, List.getElem_cons_succ, List.getElem_cons_zero]; go_simp)
    try with_reducible rfl
  simp only [List.getElem_toArray, List.getElem_cons_succ, List.getElem_cons_zero, Act.put, List.setIfInBounds_toArray, List.set_cons_zero, List.set_cons_succ]
  refine wpAnyH_take (i := 25) (oi := _) (v := ?_) rfl (by kernel_rfl) (by kernel_rfl) (by kernel_rfl) (fun _ _ _ h => h) (Or.inl ⟨by rfl, ?_⟩) (by assumption) ?_
  rotate_left
  · (intro w hSw; (try dsimp only at hSw); simp only [List.getElem_toArray, List.getElem_cons_succ, List.getElem_cons_zero]; go_simp)
    try with_reducible rfl
  simp only [List.getElem_toArray, List.getElem_cons_succ, List.getElem_cons_zero, Act.put, List.setIfInBounds_toArray, List.set_cons_zero, List.set_cons_succ]
  refine wpAnyH_done (by kernel_rfl) ?_ _
  clear c0 d0 l0 c1 d1 l1 c2 d2 l2 c3 d3 l3 c4 d4 l4
  have bx0 := ((((bx0.drew.below hb1).below hb2).below hb3).below hb4)
  have bx1 := ((((bx1.drew.below hb1).below hb2).below hb3).below hb4)
  have bx2 := ((((bx2.drew.below hb1).below hb2).below hb3).below hb4)
  have bx3 := ((((bx3.drew.below hb1).below hb2).below hb3).below hb4)
  have bx4 := ((((bx4.drew.below hb1).below hb2).below hb3).below hb4)
  have K := K.drew
  have K := K.trans (hb1.mono K.size)
  have K := K.trans (hb2.mono K.size)
  have K := K.trans (hb3.mono K.size)
  have K := K.trans (hb4.mono K.size)
  clear hb1 hb2 hb3 hb4
  generalize V4 = Y4 at *
  have c0 := bx0.c0
  have d0 := bx0.c1
  have l0 := bx0.lt
  have c1 := bx1.c0
  have d1 := bx1.c1
  have l1 := bx1.lt
  have c2 := bx2.c0
  have d2 := bx2.c1
  have l2 := bx2.lt
  have c3 := bx3.c0
  have d3 := bx3.c1
  have l3 := bx3.lt
  have c4 := bx4.c0
  have d4 := bx4.c1
  have l4 := bx4.lt
  go_wp2_with fail
  refine wp_region_held_drew (S := (fun w' => w'.cell? ⟨w.heap.size, 0, none⟩ = some (.int .i64 a) ∧ w'.cell? ⟨w.heap.size, 1, none⟩ = some (.int .i64 b) ∧ w'.cell? ⟨w.heap.size + 1, 0, none⟩ = some (.int .i64 c) ∧ w'.cell? ⟨w.heap.size + 1, 1, none⟩ = some (.int .i64 d) ∧ w'.cell? ⟨n4, 0, none⟩ = some (.int .i64 (mtF a b c d)) ∧ w'.cell? ⟨n4, 1, none⟩ = some (.int .i64 (mtT a b c d)))) (by kernel_rfl) ⟨(bx0).c0, (bx0).c1, (bx1).c0, (bx1).c1, (bx4).c0, (bx4).c1⟩ (fun hHeld => ?_)
  refine wpAnyH_ready (rs := [0]) (by kernel_rfl) (by simp) ?_
  refine AllReadyH.cons (o := _) rfl (fun K hK => ?_) AllReadyH.nil
  simp only [List.getElem_toArray, List.getElem_cons_zero]
  go_simp
  refine (live_any _).mono ?_
  rintro e V1 ⟨rfl, hb1⟩
  refine hK.out _ _ ⟨((bx0.drew.below hb1)).c0, ((bx0.drew.below hb1)).c1, ((bx1.drew.below hb1)).c0, ((bx1.drew.below hb1)).c1, ((bx4.drew.below hb1)).c0, ((bx4.drew.below hb1)).c1⟩ (fun hHeld => ?_)
  clear hK K
  try simp only [List.getElem_toArray, List.getElem_cons_succ, List.getElem_cons_zero, Act.put, List.setIfInBounds_toArray, List.set_cons_zero, List.set_cons_succ]
  refine wpAnyH_take (i := 1) (oi := _) (v := ?_) rfl (by kernel_rfl) (by kernel_rfl) (by kernel_rfl) (fun _ _ _ h => h) (Or.inl ⟨by rfl, ?_⟩) (by assumption) ?_
  rotate_left
  · (intro w hSw; (try dsimp only at hSw); simp only [List.getElem_toArray, List.getElem_cons_succ, List.getElem_cons_zero]; go_simp)
    try with_reducible rfl
  simp only [List.getElem_toArray, List.getElem_cons_succ, List.getElem_cons_zero, Act.put, List.setIfInBounds_toArray, List.set_cons_zero, List.set_cons_succ]
  refine wpAnyH_take (i := 2) (oi := _) (v := ?_) rfl (by kernel_rfl) (by kernel_rfl) (by kernel_rfl) (fun _ _ _ h => h) (Or.inl ⟨by rfl, ?_⟩) (by assumption) ?_
  rotate_left
  · (intro w hSw; (try dsimp only at hSw); simp only [List.getElem_toArray, List.getElem_cons_succ, List.getElem_cons_zero]; go_simp)
    try with_reducible rfl
  simp only [List.getElem_toArray, List.getElem_cons_succ, List.getElem_cons_zero, Act.put, List.setIfInBounds_toArray, List.set_cons_zero, List.set_cons_succ]
  refine wpAnyH_take (i := 3) (oi := _) (v := ?_) rfl (by kernel_rfl) (by kernel_rfl) (by kernel_rfl) (fun _ _ _ h => h) (Or.inl ⟨by rfl, ?_⟩) (by assumption) ?_
  rotate_left
  · (intro w hSw; (try dsimp only at hSw); simp only [List.getElem_toArray, List.getElem_cons_succ, List.getElem_cons_zero]; go_simp)
    try with_reducible rfl
  simp only [List.getElem_toArray, List.getElem_cons_succ, List.getElem_cons_zero, Act.put, List.setIfInBounds_toArray, List.set_cons_zero, List.set_cons_succ]
  refine wpAnyH_take (i := 5) (oi := _) (v := ?_) rfl (by kernel_rfl) (by kernel_rfl) (by kernel_rfl) (fun _ _ _ h => h) (Or.inl ⟨by rfl, ?_⟩) (by assumption) ?_
  rotate_left
  · (intro w hSw; (try dsimp only at hSw); simp only [List.getElem_toArray, List.getElem_cons_succ, List.getElem_cons_zero]; go_simp)
    try with_reducible rfl
  simp only [List.getElem_toArray, List.getElem_cons_succ, List.getElem_cons_zero, Act.put, List.setIfInBounds_toArray, List.set_cons_zero, List.set_cons_succ]
  refine wpAnyH_take (i := 6) (oi := _) (v := ?_) rfl (by kernel_rfl) (by kernel_rfl) (by kernel_rfl) (fun _ _ _ h => h) (Or.inl ⟨by rfl, ?_⟩) (by assumption) ?_
  rotate_left
  · (intro w hSw; (try dsimp only at hSw); simp only [List.getElem_toArray, List.getElem_cons_succ, List.getElem_cons_zero]; go_simp)
    try with_reducible rfl
  simp only [List.getElem_toArray, List.getElem_cons_succ, List.getElem_cons_zero, Act.put, List.setIfInBounds_toArray, List.set_cons_zero, List.set_cons_succ]
  refine wpAnyH_ready (rs := [4]) (by kernel_rfl) (by simp) ?_
  refine AllReadyH.cons (o := _) rfl (fun K hK => ?_) AllReadyH.nil
  simp only [List.getElem_toArray, List.getElem_cons_succ, List.getElem_cons_zero]
  go_simp
  refine (has_any _ (mtF a b c d) (mtT a b c d) u).mono ?_
  rintro e V2 ⟨rfl, hb2⟩
  refine hK.out _ _ ⟨(((bx0.drew.below hb1).below hb2)).c0, (((bx0.drew.below hb1).below hb2)).c1, (((bx1.drew.below hb1).below hb2)).c0, (((bx1.drew.below hb1).below hb2)).c1, (((bx4.drew.below hb1).below hb2)).c0, (((bx4.drew.below hb1).below hb2)).c1⟩ (fun hHeld => ?_)
  clear hK K
  try simp only [List.getElem_toArray, List.getElem_cons_succ, List.getElem_cons_zero, Act.put, List.setIfInBounds_toArray, List.set_cons_zero, List.set_cons_succ]
  refine wpAnyH_ready (rs := [7]) (by kernel_rfl) (by simp) ?_
  refine AllReadyH.cons (o := _) rfl (fun K hK => ?_) AllReadyH.nil
  simp only [List.getElem_toArray, List.getElem_cons_succ, List.getElem_cons_zero]
  go_simp
  refine (has_of _ a b u _ hA).mono ?_
  rintro e V3 ⟨rfl, hb3⟩
  refine hK.out _ _ ⟨((((bx0.drew.below hb1).below hb2).below hb3)).c0, ((((bx0.drew.below hb1).below hb2).below hb3)).c1, ((((bx1.drew.below hb1).below hb2).below hb3)).c0, ((((bx1.drew.below hb1).below hb2).below hb3)).c1, ((((bx4.drew.below hb1).below hb2).below hb3)).c0, ((((bx4.drew.below hb1).below hb2).below hb3)).c1⟩ (fun hHeld => ?_)
  clear hK K
  try simp only [List.getElem_toArray, List.getElem_cons_succ, List.getElem_cons_zero, Act.put, List.setIfInBounds_toArray, List.set_cons_zero, List.set_cons_succ]
  refine wpAnyH_take (i := 8) (oi := _) (v := ?_) rfl (by kernel_rfl) (by kernel_rfl) (by kernel_rfl) (fun _ _ _ h => h) (Or.inl ⟨by rfl, ?_⟩) (by assumption) ?_
  rotate_left
  · (intro w hSw; (try dsimp only at hSw); simp only [List.getElem_toArray, List.getElem_cons_succ, List.getElem_cons_zero]; go_simp)
    try with_reducible rfl
  simp only [List.getElem_toArray, List.getElem_cons_succ, List.getElem_cons_zero, Act.put, List.setIfInBounds_toArray, List.set_cons_zero, List.set_cons_succ]
  refine wpAnyH_take (i := 9) (oi := _) (v := ?_) rfl (by kernel_rfl) (by kernel_rfl) (by kernel_rfl) (fun _ _ _ h => h) (Or.inl ⟨by rfl, ?_⟩) (by assumption) ?_
  rotate_left
  · (intro w hSw; (try dsimp only at hSw); simp only [List.getElem_toArray, List.getElem_cons_succ, List.getElem_cons_zero]; go_simp)
    try with_reducible rfl
  simp only [List.getElem_toArray, List.getElem_cons_succ, List.getElem_cons_zero, Act.put, List.setIfInBounds_toArray, List.set_cons_zero, List.set_cons_succ]
  refine wpAnyH_take (i := 10) (oi := _) (v := ?_) rfl (by kernel_rfl) (by kernel_rfl) (by kernel_rfl) (fun _ _ _ h => h) (Or.inl ⟨by rfl, ?_⟩) (by assumption) ?_
  rotate_left
  · (intro w hSw; (try dsimp only at hSw); simp only [List.getElem_toArray, List.getElem_cons_succ, List.getElem_cons_zero]; go_simp)
    try with_reducible rfl
  simp only [List.getElem_toArray, List.getElem_cons_succ, List.getElem_cons_zero, Act.put, List.setIfInBounds_toArray, List.set_cons_zero, List.set_cons_succ]
  refine wpAnyH_ready (rs := [11]) (by kernel_rfl) (by simp) ?_
  refine AllReadyH.cons (o := _) rfl (fun K hK => ?_) AllReadyH.nil
  simp only [List.getElem_toArray, List.getElem_cons_succ, List.getElem_cons_zero]
  go_simp
  refine (has_any _ c d u).mono ?_
  rintro e V4 ⟨rfl, hb4⟩
  refine hK.out _ _ ⟨(((((bx0.drew.below hb1).below hb2).below hb3).below hb4)).c0, (((((bx0.drew.below hb1).below hb2).below hb3).below hb4)).c1, (((((bx1.drew.below hb1).below hb2).below hb3).below hb4)).c0, (((((bx1.drew.below hb1).below hb2).below hb3).below hb4)).c1, (((((bx4.drew.below hb1).below hb2).below hb3).below hb4)).c0, (((((bx4.drew.below hb1).below hb2).below hb3).below hb4)).c1⟩ (fun hHeld => ?_)
  clear hK K
  try simp only [List.getElem_toArray, List.getElem_cons_succ, List.getElem_cons_zero, Act.put, List.setIfInBounds_toArray, List.set_cons_zero, List.set_cons_succ]
  refine wpAnyH_take (i := 12) (oi := _) (v := ?_) rfl (by kernel_rfl) (by kernel_rfl) (by kernel_rfl) (fun _ _ _ h => h) (Or.inl ⟨by rfl, ?_⟩) (by assumption) ?_
  rotate_left
  · (intro w hSw; (try dsimp only at hSw); simp only [List.getElem_toArray, List.getElem_cons_succ, List.getElem_cons_zero]; go_simp)
    try with_reducible rfl
  simp only [List.getElem_toArray, List.getElem_cons_succ, List.getElem_cons_zero, Act.put, List.setIfInBounds_toArray, List.set_cons_zero, List.set_cons_succ]
  refine wpAnyH_take (i := 13) (oi := _) (v := ?_) rfl (by kernel_rfl) (by kernel_rfl) (by kernel_rfl) (fun _ _ _ h => h) (Or.inl ⟨by rfl, ?_⟩) (by assumption) ?_
  rotate_left
  · (intro w hSw; (try dsimp only at hSw); simp only [List.getElem_toArray, List.getElem_cons_succ, List.getElem_cons_zero]; go_simp)
    try with_reducible rfl
  simp only [List.getElem_toArray, List.getElem_cons_succ, List.getElem_cons_zero, Act.put, List.setIfInBounds_toArray, List.set_cons_zero, List.set_cons_succ]
  refine wpAnyH_take (i := 14) (oi := _) (v := ?_) rfl (by kernel_rfl) (by kernel_rfl) (by kernel_rfl) (fun _ _ _ h => h) (Or.inl ⟨by rfl, ?_⟩) (by assumption) ?_
  rotate_left
  · (intro w hSw; (try dsimp only at hSw); simp only [List.getElem_toArray, List.getElem_cons_succ, List.getElem_cons_zero]; go_simp)
    try with_reducible rfl
  simp only [List.getElem_toArray, List.getElem_cons_succ, List.getElem_cons_zero, Act.put, List.setIfInBounds_toArray, List.set_cons_zero, List.set_cons_succ]
  refine wpAnyH_take (i := 15) (oi := _) (v := ?_) rfl (by kernel_rfl) (by kernel_rfl) (by kernel_rfl) (fun _ _ _ h => h) (Or.inl ⟨by rfl, ?_⟩) (by assumption) ?_
  rotate_left
  · (intro w hSw; (try dsimp only at hSw); simp only [List.getElem_toArray, List.getElem_cons_succ, List.getElem_cons_zero]; go_simp)
    try with_reducible rfl
  simp only [List.getElem_toArray, List.getElem_cons_succ, List.getElem_cons_zero, Act.put, List.setIfInBounds_toArray, List.set_cons_zero, List.set_cons_succ]
  refine wpAnyH_done (by kernel_rfl) ?_ _
  clear c0 d0 l0 c1 d1 l1 c2 d2 l2 c3 d3 l3 c4 d4 l4
  have bx0 := ((((bx0.drew.below hb1).below hb2).below hb3).below hb4)
  have bx1 := ((((bx1.drew.below hb1).below hb2).below hb3).below hb4)
  have bx2 := ((((bx2.drew.below hb1).below hb2).below hb3).below hb4)
  have bx3 := ((((bx3.drew.below hb1).below hb2).below hb3).below hb4)
  have bx4 := ((((bx4.drew.below hb1).below hb2).below hb3).below hb4)
  have K := K.drew
  have K := K.trans (hb1.mono K.size)
  have K := K.trans (hb2.mono K.size)
  have K := K.trans (hb3.mono K.size)
  have K := K.trans (hb4.mono K.size)
  clear hb1 hb2 hb3 hb4
  generalize V4 = Y4 at *
  have c0 := bx0.c0
  have d0 := bx0.c1
  have l0 := bx0.lt
  have c1 := bx1.c0
  have d1 := bx1.c1
  have l1 := bx1.lt
  have c2 := bx2.c0
  have d2 := bx2.c1
  have l2 := bx2.lt
  have c3 := bx3.c0
  have d3 := bx3.c1
  have l3 := bx3.lt
  have c4 := bx4.c0
  have d4 := bx4.c1
  have l4 := bx4.lt
  go_wp2_with fail
  go_ret
  exact ⟨rfl, K⟩

set_option maxHeartbeats 2000000 in
theorem parts_hi (w : World) (a b c d t u : Int) (hA : hasB a b u = true) (hu : t ≤ u) : Calls Try.prog 7 #[sp a b, sp c d, .int .i64 t, .int .i64 u] w (PV (.bool true) w) := by
  have hX : hasB (ahF a b t) (ahT a b t) u = false := bool_no (has_ahead a b u t) (by omega)
  have hZ : hasB (reF a b t) (reT a b t) u = true := (has_rest a b u t).2 ⟨hA, hu⟩
  have hd : decide (u < t) = false := by simp; omega
  have hM : hasB (mtF a b c d) (mtT a b c d) u = hasB c d u := by
    rw [Bool.eq_iff_iff, has_meet]
    exact ⟨fun h => h.2, fun h => ⟨hA, h⟩⟩
  go_enter Try.func7, Try.ntmps7
  go_wp2_with fail
  have K : Below w.heap.size w ((w.alloc (.cells #[.int .i64 a, .int .i64 b] 23)).alloc (.cells #[.int .i64 c, .int .i64 d] 23)) := (((Below.refl _ _).alloc (Nat.le_refl _) _).alloc (by first | omega | (simp; done) | (simp; omega)) _)
  have bx0 : Bx ((w.alloc (.cells #[.int .i64 a, .int .i64 b] 23)).alloc (.cells #[.int .i64 c, .int .i64 d] 23)) (w.heap.size) a b := ((Bx.new' (W := w) (n := w.heap.size) (by simp) a b 23).alloc _)
  have bx1 : Bx ((w.alloc (.cells #[.int .i64 a, .int .i64 b] 23)).alloc (.cells #[.int .i64 c, .int .i64 d] 23)) (w.heap.size + 1) c d := (Bx.new' (W := (w.alloc (.cells #[.int .i64 a, .int .i64 b] 23))) (n := w.heap.size + 1) (by simp) c d 23)
  generalize ((w.alloc (.cells #[.int .i64 a, .int .i64 b] 23)).alloc (.cells #[.int .i64 c, .int .i64 d] 23)) = W1 at *
  have c0 := bx0.c0
  have d0 := bx0.c1
  have l0 := bx0.lt
  have c1 := bx1.c0
  have d1 := bx1.c1
  have l1 := bx1.lt
  refine (ahead_any _ a b t).mono ?_
  rintro e V ⟨rfl, hb⟩
  clear c0 d0 l0 c1 d1 l1
  have bx0 := bx0.below hb
  have bx1 := bx1.below hb
  have K := K.trans (hb.mono K.size)
  clear hb
  have bx0 := bx0.alloc (.cells #[.int .i64 (ahF a b t), .int .i64 (ahT a b t)] 23)
  have bx1 := bx1.alloc (.cells #[.int .i64 (ahF a b t), .int .i64 (ahT a b t)] 23)
  have bx2 := Bx.new V (ahF a b t) (ahT a b t) 23
  have K := K.alloc K.size (.cells #[.int .i64 (ahF a b t), .int .i64 (ahT a b t)] 23)
  have c0 := bx0.c0
  have d0 := bx0.c1
  have l0 := bx0.lt
  have c1 := bx1.c0
  have d1 := bx1.c1
  have l1 := bx1.lt
  have c2 := bx2.c0
  have d2 := bx2.c1
  have l2 := bx2.lt
  go_wp2_with fail
  clear c0 d0 l0 c1 d1 l1 c2 d2 l2
  have SZ2 := Lib.hid (show (V.alloc (.cells #[.int .i64 (ahF a b t), .int .i64 (ahT a b t)] 23)).heap.size = V.heap.size + 1 by simp)
  generalize (V.alloc (.cells #[.int .i64 (ahF a b t), .int .i64 (ahT a b t)] 23)) = W2 at *
  generalize V.heap.size = n2 at *
  have c0 := bx0.c0
  have d0 := bx0.c1
  have l0 := bx0.lt
  have c1 := bx1.c0
  have d1 := bx1.c1
  have l1 := bx1.lt
  have c2 := bx2.c0
  have d2 := bx2.c1
  have l2 := bx2.lt
  refine (rest_any _ a b t).mono ?_
  rintro e V ⟨rfl, hb⟩
  clear c0 d0 l0 c1 d1 l1 c2 d2 l2
  have bx0 := bx0.below hb
  have bx1 := bx1.below hb
  have bx2 := bx2.below hb
  have K := K.trans (hb.mono K.size)
  clear hb
  have bx0 := bx0.alloc (.cells #[.int .i64 (reF a b t), .int .i64 (reT a b t)] 23)
  have bx1 := bx1.alloc (.cells #[.int .i64 (reF a b t), .int .i64 (reT a b t)] 23)
  have bx2 := bx2.alloc (.cells #[.int .i64 (reF a b t), .int .i64 (reT a b t)] 23)
  have bx3 := Bx.new V (reF a b t) (reT a b t) 23
  have K := K.alloc K.size (.cells #[.int .i64 (reF a b t), .int .i64 (reT a b t)] 23)
  have c0 := bx0.c0
  have d0 := bx0.c1
  have l0 := bx0.lt
  have c1 := bx1.c0
  have d1 := bx1.c1
  have l1 := bx1.lt
  have c2 := bx2.c0
  have d2 := bx2.c1
  have l2 := bx2.lt
  have c3 := bx3.c0
  have d3 := bx3.c1
  have l3 := bx3.lt
  go_wp2_with fail
  clear c0 d0 l0 c1 d1 l1 c2 d2 l2 c3 d3 l3
  have SZ3 := Lib.hid (show (V.alloc (.cells #[.int .i64 (reF a b t), .int .i64 (reT a b t)] 23)).heap.size = V.heap.size + 1 by simp)
  generalize (V.alloc (.cells #[.int .i64 (reF a b t), .int .i64 (reT a b t)] 23)) = W3 at *
  generalize V.heap.size = n3 at *
  have c0 := bx0.c0
  have d0 := bx0.c1
  have l0 := bx0.lt
  have c1 := bx1.c0
  have d1 := bx1.c1
  have l1 := bx1.lt
  have c2 := bx2.c0
  have d2 := bx2.c1
  have l2 := bx2.lt
  have c3 := bx3.c0
  have d3 := bx3.c1
  have l3 := bx3.lt
  refine (meet_any _ a b c d).mono ?_
  rintro e V ⟨rfl, hb⟩
  clear c0 d0 l0 c1 d1 l1 c2 d2 l2 c3 d3 l3
  have bx0 := bx0.below hb
  have bx1 := bx1.below hb
  have bx2 := bx2.below hb
  have bx3 := bx3.below hb
  have K := K.trans (hb.mono K.size)
  clear hb
  have bx0 := bx0.alloc (.cells #[.int .i64 (mtF a b c d), .int .i64 (mtT a b c d)] 23)
  have bx1 := bx1.alloc (.cells #[.int .i64 (mtF a b c d), .int .i64 (mtT a b c d)] 23)
  have bx2 := bx2.alloc (.cells #[.int .i64 (mtF a b c d), .int .i64 (mtT a b c d)] 23)
  have bx3 := bx3.alloc (.cells #[.int .i64 (mtF a b c d), .int .i64 (mtT a b c d)] 23)
  have bx4 := Bx.new V (mtF a b c d) (mtT a b c d) 23
  have K := K.alloc K.size (.cells #[.int .i64 (mtF a b c d), .int .i64 (mtT a b c d)] 23)
  have c0 := bx0.c0
  have d0 := bx0.c1
  have l0 := bx0.lt
  have c1 := bx1.c0
  have d1 := bx1.c1
  have l1 := bx1.lt
  have c2 := bx2.c0
  have d2 := bx2.c1
  have l2 := bx2.lt
  have c3 := bx3.c0
  have d3 := bx3.c1
  have l3 := bx3.lt
  have c4 := bx4.c0
  have d4 := bx4.c1
  have l4 := bx4.lt
  go_wp2_with fail
  clear c0 d0 l0 c1 d1 l1 c2 d2 l2 c3 d3 l3 c4 d4 l4
  have SZ4 := Lib.hid (show (V.alloc (.cells #[.int .i64 (mtF a b c d), .int .i64 (mtT a b c d)] 23)).heap.size = V.heap.size + 1 by simp)
  generalize (V.alloc (.cells #[.int .i64 (mtF a b c d), .int .i64 (mtT a b c d)] 23)) = W4 at *
  generalize V.heap.size = n4 at *
  have c0 := bx0.c0
  have d0 := bx0.c1
  have l0 := bx0.lt
  have c1 := bx1.c0
  have d1 := bx1.c1
  have l1 := bx1.lt
  have c2 := bx2.c0
  have d2 := bx2.c1
  have l2 := bx2.lt
  have c3 := bx3.c0
  have d3 := bx3.c1
  have l3 := bx3.lt
  have c4 := bx4.c0
  have d4 := bx4.c1
  have l4 := bx4.lt
  refine wp_region_held_drew (S := (fun w' => w'.cell? ⟨w.heap.size, 0, none⟩ = some (.int .i64 a) ∧ w'.cell? ⟨w.heap.size, 1, none⟩ = some (.int .i64 b) ∧ w'.cell? ⟨n2, 0, none⟩ = some (.int .i64 (ahF a b t)) ∧ w'.cell? ⟨n2, 1, none⟩ = some (.int .i64 (ahT a b t)) ∧ w'.cell? ⟨n3, 0, none⟩ = some (.int .i64 (reF a b t)) ∧ w'.cell? ⟨n3, 1, none⟩ = some (.int .i64 (reT a b t)))) (by kernel_rfl) ⟨(bx0).c0, (bx0).c1, (bx2).c0, (bx2).c1, (bx3).c0, (bx3).c1⟩ (fun hHeld => ?_)
  refine wpAnyH_take (i := 0) (oi := _) (v := ?_) rfl (by kernel_rfl) (by kernel_rfl) (by kernel_rfl) (fun _ _ _ h => h) (Or.inl ⟨by rfl, ?_⟩) (by assumption) ?_
  rotate_left
  · (intro w hSw; (try dsimp only at hSw); simp only [List.getElem_toArray, List.getElem_cons_zero]; go_simp)
    try with_reducible rfl
  simp only [List.getElem_toArray, List.getElem_cons_zero, Act.put, List.setIfInBounds_toArray, List.set_cons_zero, List.set_cons_succ]
  refine wpAnyH_take (i := 1) (oi := _) (v := ?_) rfl (by kernel_rfl) (by kernel_rfl) (by kernel_rfl) (fun _ _ _ h => h) (Or.inl ⟨by rfl, ?_⟩) (by assumption) ?_
  rotate_left
  · (intro w hSw; (try dsimp only at hSw); simp only [List.getElem_toArray, List.getElem_cons_succ, List.getElem_cons_zero]; go_simp)
    try with_reducible rfl
  simp only [List.getElem_toArray, List.getElem_cons_succ, List.getElem_cons_zero, Act.put, List.setIfInBounds_toArray, List.set_cons_zero, List.set_cons_succ]
  refine wpAnyH_take (i := 3) (oi := _) (v := ?_) rfl (by kernel_rfl) (by kernel_rfl) (by kernel_rfl) (fun _ _ _ h => h) (Or.inl ⟨by rfl, ?_⟩) (by assumption) ?_
  rotate_left
  · (intro w hSw; (try dsimp only at hSw); simp only [List.getElem_toArray, List.getElem_cons_succ, List.getElem_cons_zero]; go_simp)
    try with_reducible rfl
  simp only [List.getElem_toArray, List.getElem_cons_succ, List.getElem_cons_zero, Act.put, List.setIfInBounds_toArray, List.set_cons_zero, List.set_cons_succ]
  refine wpAnyH_take (i := 4) (oi := _) (v := ?_) rfl (by kernel_rfl) (by kernel_rfl) (by kernel_rfl) (fun _ _ _ h => h) (Or.inl ⟨by rfl, ?_⟩) (by assumption) ?_
  rotate_left
  · (intro w hSw; (try dsimp only at hSw); simp only [List.getElem_toArray, List.getElem_cons_succ, List.getElem_cons_zero]; go_simp)
    try with_reducible rfl
  simp only [List.getElem_toArray, List.getElem_cons_succ, List.getElem_cons_zero, Act.put, List.setIfInBounds_toArray, List.set_cons_zero, List.set_cons_succ]
  refine wpAnyH_ready (rs := [2]) (by kernel_rfl) (by simp) ?_
  refine AllReadyH.cons (o := _) rfl (fun K hK => ?_) AllReadyH.nil
  simp only [List.getElem_toArray, List.getElem_cons_succ, List.getElem_cons_zero]
  go_simp
  refine (has_of _ (ahF a b t) (ahT a b t) u _ hX).mono ?_
  rintro e V1 ⟨rfl, hb1⟩
  refine hK.out _ _ ⟨((bx0.drew.below hb1)).c0, ((bx0.drew.below hb1)).c1, ((bx2.drew.below hb1)).c0, ((bx2.drew.below hb1)).c1, ((bx3.drew.below hb1)).c0, ((bx3.drew.below hb1)).c1⟩ (fun hHeld => ?_)
  clear hK K
  try simp only [List.getElem_toArray, List.getElem_cons_succ, List.getElem_cons_zero, Act.put, List.setIfInBounds_toArray, List.set_cons_zero, List.set_cons_succ]
  refine wpAnyH_ready (rs := [5]) (by kernel_rfl) (by simp) ?_
  refine AllReadyH.cons (o := _) rfl (fun K hK => ?_) AllReadyH.nil
  simp only [List.getElem_toArray, List.getElem_cons_succ, List.getElem_cons_zero]
  go_simp
  refine (has_of _ a b u _ hA).mono ?_
  rintro e V2 ⟨rfl, hb2⟩
  refine hK.out _ _ ⟨(((bx0.drew.below hb1).below hb2)).c0, (((bx0.drew.below hb1).below hb2)).c1, (((bx2.drew.below hb1).below hb2)).c0, (((bx2.drew.below hb1).below hb2)).c1, (((bx3.drew.below hb1).below hb2)).c0, (((bx3.drew.below hb1).below hb2)).c1⟩ (fun hHeld => ?_)
  clear hK K
  try simp only [List.getElem_toArray, List.getElem_cons_succ, List.getElem_cons_zero, Act.put, List.setIfInBounds_toArray, List.set_cons_zero, List.set_cons_succ]
  refine wpAnyH_take (i := 6) (oi := _) (v := ?_) rfl (by kernel_rfl) (by kernel_rfl) (by kernel_rfl) (fun _ _ _ h => h) (Or.inl ⟨by rfl, ?_⟩) (by assumption) ?_
  rotate_left
  · (intro w hSw; (try dsimp only at hSw); simp only [List.getElem_toArray, List.getElem_cons_succ, List.getElem_cons_zero]; go_simp)
    try with_reducible rfl
  simp only [List.getElem_toArray, List.getElem_cons_succ, List.getElem_cons_zero, Act.put, List.setIfInBounds_toArray, List.set_cons_zero, List.set_cons_succ]
  refine wpAnyH_take (i := 7) (oi := _) (v := ?_) rfl (by kernel_rfl) (by kernel_rfl) (by kernel_rfl) (fun _ _ _ h => h) (Or.inl ⟨by rfl, ?_⟩) (by assumption) ?_
  rotate_left
  · (intro w hSw; (try dsimp only at hSw); simp only [List.getElem_toArray, List.getElem_cons_succ, List.getElem_cons_zero]; go_simp)
    try with_reducible rfl
  simp only [List.getElem_toArray, List.getElem_cons_succ, List.getElem_cons_zero, Act.put, List.setIfInBounds_toArray, List.set_cons_zero, List.set_cons_succ]
  refine wpAnyH_take (i := 8) (oi := _) (v := ?_) rfl (by kernel_rfl) (by kernel_rfl) (by kernel_rfl) (fun _ _ _ h => h) (Or.inl ⟨by rfl, ?_⟩) (by assumption) ?_
  rotate_left
  · (intro w hSw; (try dsimp only at hSw); simp only [List.getElem_toArray, List.getElem_cons_succ, List.getElem_cons_zero]; go_simp)
    try with_reducible rfl
  simp only [List.getElem_toArray, List.getElem_cons_succ, List.getElem_cons_zero, Act.put, List.setIfInBounds_toArray, List.set_cons_zero, List.set_cons_succ]
  refine wpAnyH_take (i := 9) (oi := _) (v := ?_) rfl (by kernel_rfl) (by kernel_rfl) (by kernel_rfl) (fun _ _ _ h => h) (Or.inl ⟨by rfl, ?_⟩) (by assumption) ?_
  rotate_left
  · (intro w hSw; (try dsimp only at hSw); simp only [List.getElem_toArray, List.getElem_cons_succ, List.getElem_cons_zero]; go_simp)
    try with_reducible rfl
  simp only [List.getElem_toArray, List.getElem_cons_succ, List.getElem_cons_zero, Act.put, List.setIfInBounds_toArray, List.set_cons_zero, List.set_cons_succ]
  refine wpAnyH_take (i := 10) (oi := _) (v := ?_) rfl (by kernel_rfl) (by kernel_rfl) (by kernel_rfl) (fun _ _ _ h => h) (Or.inl ⟨by rfl, ?_⟩) (by assumption) ?_
  rotate_left
  · (intro w hSw; (try dsimp only at hSw); simp only [List.getElem_toArray, List.getElem_cons_succ, List.getElem_cons_zero]; go_simp)
    try with_reducible rfl
  simp only [List.getElem_toArray, List.getElem_cons_succ, List.getElem_cons_zero, Act.put, List.setIfInBounds_toArray, List.set_cons_zero, List.set_cons_succ]
  refine wpAnyH_take (i := 11) (oi := _) (v := ?_) rfl (by kernel_rfl) (by kernel_rfl) (by kernel_rfl) (fun _ _ _ h => h) (Or.inl ⟨by rfl, ?_⟩) (by assumption) ?_
  rotate_left
  · (intro w hSw; (try dsimp only at hSw); simp only [List.getElem_toArray, List.getElem_cons_succ, List.getElem_cons_zero]; go_simp)
    try with_reducible rfl
  simp only [List.getElem_toArray, List.getElem_cons_succ, List.getElem_cons_zero, Act.put, List.setIfInBounds_toArray, List.set_cons_zero, List.set_cons_succ]
  refine wpAnyH_take (i := 12) (oi := _) (v := ?_) rfl (by kernel_rfl) (by kernel_rfl) (by kernel_rfl) (fun _ _ _ h => h) (Or.inl ⟨by rfl, ?_⟩) (by assumption) ?_
  rotate_left
  · (intro w hSw; (try dsimp only at hSw); simp only [List.getElem_toArray, List.getElem_cons_succ, List.getElem_cons_zero]; go_simp)
    try with_reducible rfl
  simp only [List.getElem_toArray, List.getElem_cons_succ, List.getElem_cons_zero, Act.put, List.setIfInBounds_toArray, List.set_cons_zero, List.set_cons_succ]
  refine wpAnyH_take (i := 13) (oi := _) (v := ?_) rfl (by kernel_rfl) (by kernel_rfl) (by kernel_rfl) (fun _ _ _ h => h) (Or.inl ⟨by rfl, ?_⟩) (by assumption) ?_
  rotate_left
  · (intro w hSw; (try dsimp only at hSw); simp only [List.getElem_toArray, List.getElem_cons_succ, List.getElem_cons_zero]; go_simp)
    try with_reducible rfl
  simp only [List.getElem_toArray, List.getElem_cons_succ, List.getElem_cons_zero, Act.put, List.setIfInBounds_toArray, List.set_cons_zero, List.set_cons_succ]
  refine wpAnyH_take (i := 14) (oi := _) (v := ?_) rfl (by kernel_rfl) (by kernel_rfl) (by kernel_rfl) (fun _ _ _ h => h) (Or.inl ⟨by rfl, ?_⟩) (by assumption) ?_
  rotate_left
  · (intro w hSw; (try dsimp only at hSw); simp only [List.getElem_toArray, List.getElem_cons_succ, List.getElem_cons_zero]; go_simp)
    try with_reducible rfl
  simp only [List.getElem_toArray, List.getElem_cons_succ, List.getElem_cons_zero, Act.put, List.setIfInBounds_toArray, List.set_cons_zero, List.set_cons_succ]
  refine wpAnyH_take (i := 16) (oi := _) (v := ?_) rfl (by kernel_rfl) (by kernel_rfl) (by kernel_rfl) (fun _ _ _ h => h) (Or.inl ⟨by rfl, ?_⟩) (by assumption) ?_
  rotate_left
  · (intro w hSw; (try dsimp only at hSw); simp only [List.getElem_toArray, List.getElem_cons_succ, List.getElem_cons_zero]; go_simp)
    try with_reducible rfl
  simp only [List.getElem_toArray, List.getElem_cons_succ, List.getElem_cons_zero, Act.put, List.setIfInBounds_toArray, List.set_cons_zero, List.set_cons_succ]
  refine wpAnyH_take (i := 17) (oi := _) (v := ?_) rfl (by kernel_rfl) (by kernel_rfl) (by kernel_rfl) (fun _ _ _ h => h) (Or.inl ⟨by rfl, ?_⟩) (by assumption) ?_
  rotate_left
  · (intro w hSw; (try dsimp only at hSw); simp only [List.getElem_toArray, List.getElem_cons_succ, List.getElem_cons_zero]; go_simp)
    try with_reducible rfl
  simp only [List.getElem_toArray, List.getElem_cons_succ, List.getElem_cons_zero, Act.put, List.setIfInBounds_toArray, List.set_cons_zero, List.set_cons_succ]
  refine wpAnyH_ready (rs := [15]) (by kernel_rfl) (by simp) ?_
  refine AllReadyH.cons (o := _) rfl (fun K hK => ?_) AllReadyH.nil
  simp only [List.getElem_toArray, List.getElem_cons_succ, List.getElem_cons_zero]
  go_simp
  refine (has_of _ (reF a b t) (reT a b t) u _ hZ).mono ?_
  rintro e V3 ⟨rfl, hb3⟩
  refine hK.out _ _ ⟨((((bx0.drew.below hb1).below hb2).below hb3)).c0, ((((bx0.drew.below hb1).below hb2).below hb3)).c1, ((((bx2.drew.below hb1).below hb2).below hb3)).c0, ((((bx2.drew.below hb1).below hb2).below hb3)).c1, ((((bx3.drew.below hb1).below hb2).below hb3)).c0, ((((bx3.drew.below hb1).below hb2).below hb3)).c1⟩ (fun hHeld => ?_)
  clear hK K
  try simp only [List.getElem_toArray, List.getElem_cons_succ, List.getElem_cons_zero, Act.put, List.setIfInBounds_toArray, List.set_cons_zero, List.set_cons_succ]
  refine wpAnyH_ready (rs := [18]) (by kernel_rfl) (by simp) ?_
  refine AllReadyH.cons (o := _) rfl (fun K hK => ?_) AllReadyH.nil
  simp only [List.getElem_toArray, List.getElem_cons_succ, List.getElem_cons_zero]
  go_simp
  refine (has_of _ a b u _ hA).mono ?_
  rintro e V4 ⟨rfl, hb4⟩
  refine hK.out _ _ ⟨(((((bx0.drew.below hb1).below hb2).below hb3).below hb4)).c0, (((((bx0.drew.below hb1).below hb2).below hb3).below hb4)).c1, (((((bx2.drew.below hb1).below hb2).below hb3).below hb4)).c0, (((((bx2.drew.below hb1).below hb2).below hb3).below hb4)).c1, (((((bx3.drew.below hb1).below hb2).below hb3).below hb4)).c0, (((((bx3.drew.below hb1).below hb2).below hb3).below hb4)).c1⟩ (fun hHeld => ?_)
  clear hK K
  try simp only [List.getElem_toArray, List.getElem_cons_succ, List.getElem_cons_zero, Act.put, List.setIfInBounds_toArray, List.set_cons_zero, List.set_cons_succ]
  refine wpAnyH_take (i := 19) (oi := _) (v := ?_) rfl (by kernel_rfl) (by kernel_rfl) (by kernel_rfl) (fun _ _ _ h => h) (Or.inl ⟨by rfl, ?_⟩) (by assumption) ?_
  rotate_left
  · (intro w hSw; (try dsimp only at hSw); simp only [List.getElem_toArray, List.getElem_cons_succ, List.getElem_cons_zero]; go_simp)
    try with_reducible rfl
  simp only [List.getElem_toArray, List.getElem_cons_succ, List.getElem_cons_zero, Act.put, List.setIfInBounds_toArray, List.set_cons_zero, List.set_cons_succ]
  refine wpAnyH_take (i := 20) (oi := _) (v := ?_) rfl (by kernel_rfl) (by kernel_rfl) (by kernel_rfl) (fun _ _ _ h => h) (Or.inl ⟨by rfl, ?_⟩) (by assumption) ?_
  rotate_left
  · (intro w hSw; (try dsimp only at hSw); simp only [List.getElem_toArray, List.getElem_cons_succ, List.getElem_cons_zero]; go_simp)
    try with_reducible rfl
  simp only [List.getElem_toArray, List.getElem_cons_succ, List.getElem_cons_zero, Act.put, List.setIfInBounds_toArray, List.set_cons_zero, List.set_cons_succ]
  refine wpAnyH_take (i := 21) (oi := _) (v := ?_) rfl (by kernel_rfl) (by kernel_rfl) (by kernel_rfl) (fun _ _ _ h => h) (Or.inl ⟨by rfl, ?_⟩) (by assumption) ?_
  rotate_left
  · (intro w hSw; (try dsimp only at hSw); simp only [List.getElem_toArray, List.getElem_cons_succ, List.getElem_cons_zero]; go_simp)
    try with_reducible rfl
  simp only [List.getElem_toArray, List.getElem_cons_succ, List.getElem_cons_zero, Act.put, List.setIfInBounds_toArray, List.set_cons_zero, List.set_cons_succ]
  refine wpAnyH_take (i := 22) (oi := _) (v := ?_) rfl (by kernel_rfl) (by kernel_rfl) (by kernel_rfl) (fun _ _ _ h => h) (Or.inl ⟨by rfl, ?_⟩) (by assumption) ?_
  rotate_left
  · (intro w hSw; (try dsimp only at hSw); simp only [List.getElem_toArray, List.getElem_cons_succ, List.getElem_cons_zero]; go_simp)
    try with_reducible rfl
  simp only [List.getElem_toArray, List.getElem_cons_succ, List.getElem_cons_zero, Act.put, List.setIfInBounds_toArray, List.set_cons_zero, List.set_cons_succ]
  refine wpAnyH_take (i := 23) (oi := _) (v := ?_) rfl (by kernel_rfl) (by kernel_rfl) (by kernel_rfl) (fun _ _ _ h => h) (Or.inl ⟨by rfl, ?_⟩) (by assumption) ?_
  rotate_left
  · (intro w hSw; (try dsimp only at hSw); simp only [List.getElem_toArray, List.getElem_cons_succ, List.getElem_cons_zero]; go_simp)
    try with_reducible rfl
  simp only [List.getElem_toArray, List.getElem_cons_succ, List.getElem_cons_zero, Act.put, List.setIfInBounds_toArray, List.set_cons_zero, List.set_cons_succ]
  refine wpAnyH_take (i := 24) (oi := _) (v := ?_) rfl (by kernel_rfl) (by kernel_rfl) (by kernel_rfl) (fun _ _ _ h => h) (Or.inl ⟨by rfl, ?_⟩) (by assumption) ?_
  rotate_left
  · (intro w hSw; (try dsimp only at hSw); simp only [List.getElem_toArray, List.getElem_cons_succ, List.getElem_cons_zero]; go_simp)
    try with_reducible rfl
  simp only [List.getElem_toArray, List.getElem_cons_succ, List.getElem_cons_zero, Act.put, List.setIfInBounds_toArray, List.set_cons_zero, List.set_cons_succ]
  refine wpAnyH_take (i := 25) (oi := _) (v := ?_) rfl (by kernel_rfl) (by kernel_rfl) (by kernel_rfl) (fun _ _ _ h => h) (Or.inl ⟨by rfl, ?_⟩) (by assumption) ?_
  rotate_left
  · (intro w hSw; (try dsimp only at hSw); simp only [List.getElem_toArray, List.getElem_cons_succ, List.getElem_cons_zero]; go_simp)
    try with_reducible rfl
  simp only [List.getElem_toArray, List.getElem_cons_succ, List.getElem_cons_zero, Act.put, List.setIfInBounds_toArray, List.set_cons_zero, List.set_cons_succ]
  refine wpAnyH_done (by kernel_rfl) ?_ _
  clear c0 d0 l0 c1 d1 l1 c2 d2 l2 c3 d3 l3 c4 d4 l4
  have bx0 := ((((bx0.drew.below hb1).below hb2).below hb3).below hb4)
  have bx1 := ((((bx1.drew.below hb1).below hb2).below hb3).below hb4)
  have bx2 := ((((bx2.drew.below hb1).below hb2).below hb3).below hb4)
  have bx3 := ((((bx3.drew.below hb1).below hb2).below hb3).below hb4)
  have bx4 := ((((bx4.drew.below hb1).below hb2).below hb3).below hb4)
  have K := K.drew
  have K := K.trans (hb1.mono K.size)
  have K := K.trans (hb2.mono K.size)
  have K := K.trans (hb3.mono K.size)
  have K := K.trans (hb4.mono K.size)
  clear hb1 hb2 hb3 hb4
  generalize V4 = Y4 at *
  have c0 := bx0.c0
  have d0 := bx0.c1
  have l0 := bx0.lt
  have c1 := bx1.c0
  have d1 := bx1.c1
  have l1 := bx1.lt
  have c2 := bx2.c0
  have d2 := bx2.c1
  have l2 := bx2.lt
  have c3 := bx3.c0
  have d3 := bx3.c1
  have l3 := bx3.lt
  have c4 := bx4.c0
  have d4 := bx4.c1
  have l4 := bx4.lt
  go_wp2_with fail
  refine wp_region_held_drew (S := (fun w' => w'.cell? ⟨w.heap.size, 0, none⟩ = some (.int .i64 a) ∧ w'.cell? ⟨w.heap.size, 1, none⟩ = some (.int .i64 b) ∧ w'.cell? ⟨w.heap.size + 1, 0, none⟩ = some (.int .i64 c) ∧ w'.cell? ⟨w.heap.size + 1, 1, none⟩ = some (.int .i64 d) ∧ w'.cell? ⟨n4, 0, none⟩ = some (.int .i64 (mtF a b c d)) ∧ w'.cell? ⟨n4, 1, none⟩ = some (.int .i64 (mtT a b c d)))) (by kernel_rfl) ⟨(bx0).c0, (bx0).c1, (bx1).c0, (bx1).c1, (bx4).c0, (bx4).c1⟩ (fun hHeld => ?_)
  refine wpAnyH_ready (rs := [0]) (by kernel_rfl) (by simp) ?_
  refine AllReadyH.cons (o := _) rfl (fun K hK => ?_) AllReadyH.nil
  simp only [List.getElem_toArray, List.getElem_cons_zero]
  go_simp
  refine (live_any _).mono ?_
  rintro e V1 ⟨rfl, hb1⟩
  refine hK.out _ _ ⟨((bx0.drew.below hb1)).c0, ((bx0.drew.below hb1)).c1, ((bx1.drew.below hb1)).c0, ((bx1.drew.below hb1)).c1, ((bx4.drew.below hb1)).c0, ((bx4.drew.below hb1)).c1⟩ (fun hHeld => ?_)
  clear hK K
  try simp only [List.getElem_toArray, List.getElem_cons_succ, List.getElem_cons_zero, Act.put, List.setIfInBounds_toArray, List.set_cons_zero, List.set_cons_succ]
  refine wpAnyH_take (i := 1) (oi := _) (v := ?_) rfl (by kernel_rfl) (by kernel_rfl) (by kernel_rfl) (fun _ _ _ h => h) (Or.inl ⟨by rfl, ?_⟩) (by assumption) ?_
  rotate_left
  · (intro w hSw; (try dsimp only at hSw); simp only [List.getElem_toArray, List.getElem_cons_succ, List.getElem_cons_zero]; go_simp)
    try with_reducible rfl
  simp only [List.getElem_toArray, List.getElem_cons_succ, List.getElem_cons_zero, Act.put, List.setIfInBounds_toArray, List.set_cons_zero, List.set_cons_succ]
  refine wpAnyH_take (i := 2) (oi := _) (v := ?_) rfl (by kernel_rfl) (by kernel_rfl) (by kernel_rfl) (fun _ _ _ h => h) (Or.inl ⟨by rfl, ?_⟩) (by assumption) ?_
  rotate_left
  · (intro w hSw; (try dsimp only at hSw); simp only [List.getElem_toArray, List.getElem_cons_succ, List.getElem_cons_zero]; go_simp)
    try with_reducible rfl
  simp only [List.getElem_toArray, List.getElem_cons_succ, List.getElem_cons_zero, Act.put, List.setIfInBounds_toArray, List.set_cons_zero, List.set_cons_succ]
  refine wpAnyH_take (i := 3) (oi := _) (v := ?_) rfl (by kernel_rfl) (by kernel_rfl) (by kernel_rfl) (fun _ _ _ h => h) (Or.inl ⟨by rfl, ?_⟩) (by assumption) ?_
  rotate_left
  · (intro w hSw; (try dsimp only at hSw); simp only [List.getElem_toArray, List.getElem_cons_succ, List.getElem_cons_zero]; go_simp)
    try with_reducible rfl
  simp only [List.getElem_toArray, List.getElem_cons_succ, List.getElem_cons_zero, Act.put, List.setIfInBounds_toArray, List.set_cons_zero, List.set_cons_succ]
  refine wpAnyH_take (i := 5) (oi := _) (v := ?_) rfl (by kernel_rfl) (by kernel_rfl) (by kernel_rfl) (fun _ _ _ h => h) (Or.inl ⟨by rfl, ?_⟩) (by assumption) ?_
  rotate_left
  · (intro w hSw; (try dsimp only at hSw); simp only [List.getElem_toArray, List.getElem_cons_succ, List.getElem_cons_zero]; go_simp)
    try with_reducible rfl
  simp only [List.getElem_toArray, List.getElem_cons_succ, List.getElem_cons_zero, Act.put, List.setIfInBounds_toArray, List.set_cons_zero, List.set_cons_succ]
  refine wpAnyH_take (i := 6) (oi := _) (v := ?_) rfl (by kernel_rfl) (by kernel_rfl) (by kernel_rfl) (fun _ _ _ h => h) (Or.inl ⟨by rfl, ?_⟩) (by assumption) ?_
  rotate_left
  · (intro w hSw; (try dsimp only at hSw); simp only [List.getElem_toArray, List.getElem_cons_succ, List.getElem_cons_zero]; go_simp)
    try with_reducible rfl
  simp only [List.getElem_toArray, List.getElem_cons_succ, List.getElem_cons_zero, Act.put, List.setIfInBounds_toArray, List.set_cons_zero, List.set_cons_succ]
  refine wpAnyH_ready (rs := [4]) (by kernel_rfl) (by simp) ?_
  refine AllReadyH.cons (o := _) rfl (fun K hK => ?_) AllReadyH.nil
  simp only [List.getElem_toArray, List.getElem_cons_succ, List.getElem_cons_zero]
  go_simp
  refine (has_any _ (mtF a b c d) (mtT a b c d) u).mono ?_
  rintro e V2 ⟨rfl, hb2⟩
  refine hK.out _ _ ⟨(((bx0.drew.below hb1).below hb2)).c0, (((bx0.drew.below hb1).below hb2)).c1, (((bx1.drew.below hb1).below hb2)).c0, (((bx1.drew.below hb1).below hb2)).c1, (((bx4.drew.below hb1).below hb2)).c0, (((bx4.drew.below hb1).below hb2)).c1⟩ (fun hHeld => ?_)
  clear hK K
  try simp only [List.getElem_toArray, List.getElem_cons_succ, List.getElem_cons_zero, Act.put, List.setIfInBounds_toArray, List.set_cons_zero, List.set_cons_succ]
  refine wpAnyH_ready (rs := [7]) (by kernel_rfl) (by simp) ?_
  refine AllReadyH.cons (o := _) rfl (fun K hK => ?_) AllReadyH.nil
  simp only [List.getElem_toArray, List.getElem_cons_succ, List.getElem_cons_zero]
  go_simp
  refine (has_of _ a b u _ hA).mono ?_
  rintro e V3 ⟨rfl, hb3⟩
  refine hK.out _ _ ⟨((((bx0.drew.below hb1).below hb2).below hb3)).c0, ((((bx0.drew.below hb1).below hb2).below hb3)).c1, ((((bx1.drew.below hb1).below hb2).below hb3)).c0, ((((bx1.drew.below hb1).below hb2).below hb3)).c1, ((((bx4.drew.below hb1).below hb2).below hb3)).c0, ((((bx4.drew.below hb1).below hb2).below hb3)).c1⟩ (fun hHeld => ?_)
  clear hK K
  try simp only [List.getElem_toArray, List.getElem_cons_succ, List.getElem_cons_zero, Act.put, List.setIfInBounds_toArray, List.set_cons_zero, List.set_cons_succ]
  refine wpAnyH_take (i := 8) (oi := _) (v := ?_) rfl (by kernel_rfl) (by kernel_rfl) (by kernel_rfl) (fun _ _ _ h => h) (Or.inl ⟨by rfl, ?_⟩) (by assumption) ?_
  rotate_left
  · (intro w hSw; (try dsimp only at hSw); simp only [List.getElem_toArray, List.getElem_cons_succ, List.getElem_cons_zero]; go_simp)
    try with_reducible rfl
  simp only [List.getElem_toArray, List.getElem_cons_succ, List.getElem_cons_zero, Act.put, List.setIfInBounds_toArray, List.set_cons_zero, List.set_cons_succ]
  refine wpAnyH_take (i := 9) (oi := _) (v := ?_) rfl (by kernel_rfl) (by kernel_rfl) (by kernel_rfl) (fun _ _ _ h => h) (Or.inl ⟨by rfl, ?_⟩) (by assumption) ?_
  rotate_left
  · (intro w hSw; (try dsimp only at hSw); simp only [List.getElem_toArray, List.getElem_cons_succ, List.getElem_cons_zero]; go_simp)
    try with_reducible rfl
  simp only [List.getElem_toArray, List.getElem_cons_succ, List.getElem_cons_zero, Act.put, List.setIfInBounds_toArray, List.set_cons_zero, List.set_cons_succ]
  refine wpAnyH_take (i := 10) (oi := _) (v := ?_) rfl (by kernel_rfl) (by kernel_rfl) (by kernel_rfl) (fun _ _ _ h => h) (Or.inl ⟨by rfl, ?_⟩) (by assumption) ?_
  rotate_left
  · (intro w hSw; (try dsimp only at hSw); simp only [List.getElem_toArray, List.getElem_cons_succ, List.getElem_cons_zero]; go_simp)
    try with_reducible rfl
  simp only [List.getElem_toArray, List.getElem_cons_succ, List.getElem_cons_zero, Act.put, List.setIfInBounds_toArray, List.set_cons_zero, List.set_cons_succ]
  refine wpAnyH_ready (rs := [11]) (by kernel_rfl) (by simp) ?_
  refine AllReadyH.cons (o := _) rfl (fun K hK => ?_) AllReadyH.nil
  simp only [List.getElem_toArray, List.getElem_cons_succ, List.getElem_cons_zero]
  go_simp
  refine (has_any _ c d u).mono ?_
  rintro e V4 ⟨rfl, hb4⟩
  refine hK.out _ _ ⟨(((((bx0.drew.below hb1).below hb2).below hb3).below hb4)).c0, (((((bx0.drew.below hb1).below hb2).below hb3).below hb4)).c1, (((((bx1.drew.below hb1).below hb2).below hb3).below hb4)).c0, (((((bx1.drew.below hb1).below hb2).below hb3).below hb4)).c1, (((((bx4.drew.below hb1).below hb2).below hb3).below hb4)).c0, (((((bx4.drew.below hb1).below hb2).below hb3).below hb4)).c1⟩ (fun hHeld => ?_)
  clear hK K
  try simp only [List.getElem_toArray, List.getElem_cons_succ, List.getElem_cons_zero, Act.put, List.setIfInBounds_toArray, List.set_cons_zero, List.set_cons_succ]
  refine wpAnyH_take (i := 12) (oi := _) (v := ?_) rfl (by kernel_rfl) (by kernel_rfl) (by kernel_rfl) (fun _ _ _ h => h) (Or.inl ⟨by rfl, ?_⟩) (by assumption) ?_
  rotate_left
  · (intro w hSw; (try dsimp only at hSw); simp only [List.getElem_toArray, List.getElem_cons_succ, List.getElem_cons_zero]; go_simp)
    try with_reducible rfl
  simp only [List.getElem_toArray, List.getElem_cons_succ, List.getElem_cons_zero, Act.put, List.setIfInBounds_toArray, List.set_cons_zero, List.set_cons_succ]
  refine wpAnyH_take (i := 13) (oi := _) (v := ?_) rfl (by kernel_rfl) (by kernel_rfl) (by kernel_rfl) (fun _ _ _ h => h) (Or.inl ⟨by rfl, ?_⟩) (by assumption) ?_
  rotate_left
  · (intro w hSw; (try dsimp only at hSw); simp only [List.getElem_toArray, List.getElem_cons_succ, List.getElem_cons_zero]; go_simp)
    try with_reducible rfl
  simp only [List.getElem_toArray, List.getElem_cons_succ, List.getElem_cons_zero, Act.put, List.setIfInBounds_toArray, List.set_cons_zero, List.set_cons_succ]
  refine wpAnyH_take (i := 14) (oi := _) (v := ?_) rfl (by kernel_rfl) (by kernel_rfl) (by kernel_rfl) (fun _ _ _ h => h) (Or.inl ⟨by rfl, ?_⟩) (by assumption) ?_
  rotate_left
  · (intro w hSw; (try dsimp only at hSw); simp only [List.getElem_toArray, List.getElem_cons_succ, List.getElem_cons_zero]; go_simp)
    try with_reducible rfl
  simp only [List.getElem_toArray, List.getElem_cons_succ, List.getElem_cons_zero, Act.put, List.setIfInBounds_toArray, List.set_cons_zero, List.set_cons_succ]
  refine wpAnyH_take (i := 15) (oi := _) (v := ?_) rfl (by kernel_rfl) (by kernel_rfl) (by kernel_rfl) (fun _ _ _ h => h) (Or.inl ⟨by rfl, ?_⟩) (by assumption) ?_
  rotate_left
  · (intro w hSw; (try dsimp only at hSw); simp only [List.getElem_toArray, List.getElem_cons_succ, List.getElem_cons_zero]; go_simp)
    try with_reducible rfl
  simp only [List.getElem_toArray, List.getElem_cons_succ, List.getElem_cons_zero, Act.put, List.setIfInBounds_toArray, List.set_cons_zero, List.set_cons_succ]
  refine wpAnyH_done (by kernel_rfl) ?_ _
  clear c0 d0 l0 c1 d1 l1 c2 d2 l2 c3 d3 l3 c4 d4 l4
  have bx0 := ((((bx0.drew.below hb1).below hb2).below hb3).below hb4)
  have bx1 := ((((bx1.drew.below hb1).below hb2).below hb3).below hb4)
  have bx2 := ((((bx2.drew.below hb1).below hb2).below hb3).below hb4)
  have bx3 := ((((bx3.drew.below hb1).below hb2).below hb3).below hb4)
  have bx4 := ((((bx4.drew.below hb1).below hb2).below hb3).below hb4)
  have K := K.drew
  have K := K.trans (hb1.mono K.size)
  have K := K.trans (hb2.mono K.size)
  have K := K.trans (hb3.mono K.size)
  have K := K.trans (hb4.mono K.size)
  clear hb1 hb2 hb3 hb4
  generalize V4 = Y4 at *
  have c0 := bx0.c0
  have d0 := bx0.c1
  have l0 := bx0.lt
  have c1 := bx1.c0
  have d1 := bx1.c1
  have l1 := bx1.lt
  have c2 := bx2.c0
  have d2 := bx2.c1
  have l2 := bx2.lt
  have c3 := bx3.c0
  have d3 := bx3.c1
  have l3 := bx3.lt
  have c4 := bx4.c0
  have d4 := bx4.c1
  have l4 := bx4.lt
  go_wp2_with fail
  go_ret
  exact ⟨rfl, K⟩

theorem parts_law (w : World) (a b c d t u : Int) : Calls Try.prog 7 #[sp a b, sp c d, .int .i64 t, .int .i64 u] w (PV (.bool true) w) := by
  cases hA : hasB a b u with
  | false => exact parts_no w a b c d t u hA
  | true =>
    by_cases hu : u < t
    · exact parts_lo w a b c d t u hA hu
    · exact parts_hi w a b c d t u hA (by omega)

end Go.Proofs.Ytghlkpaadahpaaa
