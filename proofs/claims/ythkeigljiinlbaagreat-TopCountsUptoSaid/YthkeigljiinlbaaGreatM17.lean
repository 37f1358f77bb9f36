/- slices.SortStableFunc of jumps: insertion. -/
import Derived.Test.YthkeigljiinlbaaGreatM16
namespace Go.Proofs.YthkeigljiinlbaaGreat
open Go.RowKit

theorem cmpI_neg (x y : Int) : (Lib.compareInt x y < 0) ↔ x < y := by
  unfold Lib.compareInt
  split
  · omega
  · split <;> omega
def keyJ (x : Jp) : Int := x.a
def cmpIJ (x y : Jp) : Int := Lib.compareInt x.a y.a
theorem cmpJ_neg (x y : Jp) : (cmpIJ x y < 0) ↔ keyJ x < keyJ y := cmpI_neg x.a y.a
theorem cmpJ_any {w0 : World} {g : Nat} (x y : Jp) (w : World) (_ : Kept (fun j => j = g) w0 w) : Calls Tryz.prog 98 #[.agg #[.int .i64 x.a, .int .i64 x.n], .agg #[.int .i64 y.a, .int .i64 y.n]] w fun e w' => e = .returned (.int .i64 (cmpIJ x y)) ∧ Kept (fun _ => False) w w' := by
  have hc := fun wx => Tryz.cmp_Compare_int x.a y.a wx
  go_enter Tryz.func98, Tryz.ntmps98
  go_wp2_with fail
  refine (hc _).mono ?_
  rintro e w1 ⟨rfl, hw⟩
  have k1 := ((Kept.refl (fun _ => False) w).alloc (.cells #[.int .i64 x.a, .int .i64 x.n] 80)).alloc (.cells #[.int .i64 y.a, .int .i64 y.n] 80)
  have K1 := Lib.hid (show Kept (fun _ => False) w w1 by rw [hw]; exact k1)
  clear hw k1
  go_wp2_with fail
  go_ret
  exact ⟨rfl, K1.out⟩

set_option maxHeartbeats 1000000 in
set_option maxRecDepth 100000 in
theorem insJ_any (g cap : Nat) (w : World) (A : List Jp) (x0 : Jp) (X B : List Jp) (W : World) (a b N : Nat) (ha : a = A.length) (hb : b = A.length + (X.length + 1)) (hN : N = (A ++ (x0 :: X ++ B)).length) (hN2 : N ≤ 1048576) (h : Arr encJ 2 80 w W g cap (A ++ (x0 :: X ++ B))) :
    Calls Tryz.prog 156 #[.slice (some ⟨g, 0, none⟩) N cap, .int .i64 a, .int .i64 b, .func (.func 98) #[] #[]] W fun e w' => e = .returned (.tuple #[]) ∧ ∃ Z : List Jp, Z.Perm (x0 :: X) ∧ Srt keyJ Z ∧ Arr encJ 2 80 w w' g cap (A ++ (Z ++ B)) := by
  have HN := Lib.hid (show N = A.length + (X.length + 1) + B.length by rw [hN]; simp only [List.length_append, List.length_cons]; omega)
  have HA := Lib.hid ha
  have HB := Lib.hid hb
  obtain ⟨bb, hab⟩ : b ≤ 1048576 ∧ a < b := by have := HN.out; omega
  clear ha hb hN
  go_enter Tryz.func156, Tryz.ntmps156
  go_wp2_with fail
  go_loopg [8] (b - a) (fun k iv wr => ∃ (i : Nat) (S R : List Jp), iv = .int .i64 i ∧ i + k = b + 1 ∧ a < i ∧ Hid (i = a + S.length) ∧ Hid (Srt keyJ S ∧ (S ++ R).Perm (x0 :: X)) ∧ Hid (Arr encJ 2 80 w wr g cap (A ++ (S ++ (R ++ B)))))
  case atStart => exact ⟨a + 1, [x0], X, int_eq (by omega), by omega, by omega, rfl, ⟨Srt.one x0, List.Perm.refl _⟩, by unfold Hid; simpa using h⟩
  case round =>
    obtain ⟨i, S, R, rfl, hk, hai, HI, HS, HR⟩ := hrel
    by_cases hlt : i < b
    · obtain ⟨x, R', hR'⟩ : ∃ x R', R = x :: R' := by
        cases R with
        | nil =>
          have := HS.out.2.length_eq
          rw [List.append_nil, List.length_cons] at this
          have := HI.out
          have := HB.out
          have := HA.out
          omega
        | cons x R' => exact ⟨x, R', rfl⟩
      subst hR'
      have iN : i < N := by have := HN.out; have := HB.out; omega
      obtain ⟨G, HG⟩ : ∃ G, Hid (G = gk ∧ i + gk = b + 1) := ⟨gk, rfl, hk⟩
      go_wp2_with fail
      go_loopg [9] i (fun k2 jv wr2 => ∃ (j : Nat) (S1 S2 : List Jp), jv = .int .i64 j ∧ j ≤ k2 ∧ j ≤ i ∧ a ≤ j ∧ Hid (j = a + S1.length) ∧ Hid (S = S1 ++ S2 ∧ ∀ y ∈ S2, keyJ x ≤ keyJ y) ∧ Hid (Arr encJ 2 80 w wr2 g cap (A ++ (S1 ++ (x :: (S2 ++ (R' ++ B)))))))
      case atStart => exact ⟨i, S, [], rfl, Nat.le_refl _, Nat.le_refl _, by omega, HI.out, ⟨by simp, fun y hy => by cases hy⟩, by unfold Hid; simpa using HR.out⟩
      case round =>
        obtain ⟨j, S1, S2, rfl, hk2, hji, haj, HJ, HSS, HR2⟩ := hrel
        have done : (j = a ∨ ∀ y, S1.getLast? = some y → keyJ y ≤ keyJ x) → Hid (∃ S', i + 1 = a + S'.length ∧ (Srt keyJ S' ∧ (S' ++ R').Perm (x0 :: X)) ∧ Arr encJ 2 80 w wr g cap (A ++ (S' ++ (R' ++ B)))) := fun hq => by
          obtain ⟨e1, e2⟩ := HSS.out
          obtain ⟨s1, s2⟩ := HS.out
          subst e1
          refine ⟨S1 ++ x :: S2, ?_, ⟨?_, ?_⟩, ?_⟩
          · have := HI.out; simp only [List.length_append, List.length_cons] at this ⊢; omega
          · obtain ⟨q1, q2, q3⟩ := srt_append.1 s1
            refine srt_append.2 ⟨q1, ?_, ?_⟩
            · unfold Srt; rw [List.pairwise_cons]; exact ⟨e2, q2⟩
            · intro y hy z hz
              rcases List.mem_cons.1 hz with rfl | hz
              · rcases hq with hq | hq
                · have : S1 = [] := List.eq_nil_of_length_eq_zero (by have := HJ.out; omega)
                  subst this; cases hy
                · obtain ⟨L, l, hl⟩ : ∃ L l, S1 = L ++ [l] := by
                    rcases List.eq_nil_or_concat S1 with rfl | ⟨L, l, rfl⟩
                    · cases hy
                    · exact ⟨L, l, by simp⟩
                  subst hl
                  have hl := hq l (by simp)
                  rcases List.mem_append.1 hy with hy | hy
                  · have := (srt_append.1 q1).2.2 y hy l (by simp)
                    omega
                  · rw [List.mem_singleton] at hy; subst hy; exact hl
              · exact q3 y hy z hz
          · refine List.Perm.trans ?_ s2
            simp only [List.append_assoc, List.cons_append]
            refine List.Perm.append_left S1 ?_
            exact (List.perm_middle (l₁ := S2) (l₂ := R') (a := x)).symm
          · have := HR2.out; simpa using this
        have DN := Lib.hid done
        clear done
        by_cases hja : a < j
        · obtain ⟨L, y, hL⟩ : ∃ L y, S1 = L ++ [y] := by
            rcases List.eq_nil_or_concat S1 with rfl | ⟨L, l, rfl⟩
            · have := HJ.out; simp only [List.length_nil] at this; omega
            · exact ⟨L, l, by simp⟩
          obtain ⟨jp, hjp⟩ : ∃ jp, j = jp + 1 := ⟨j - 1, by omega⟩
          have hjl : jp = a + L.length := by have := HJ.out; rw [hL, List.length_append] at this; simp only [List.length_cons, List.length_nil] at this; omega
          have er : A ++ (S1 ++ (x :: (S2 ++ (R' ++ B)))) = (A ++ L) ++ y :: ([] ++ x :: (S2 ++ (R' ++ B))) := by rw [hL]; simp
          have hr := HR2.out
          rw [er] at hr
          have hA := HA.out
          obtain ⟨y0, y1⟩ := ArrJ.cells hr (i := jp) (get_app' _ _ (by rw [List.length_append]; omega))
          obtain ⟨x0', x1'⟩ := ArrJ.cells hr (i := j) (x := x) (by
            have : (A ++ L) ++ y :: ([] ++ x :: (S2 ++ (R' ++ B))) = ((A ++ L) ++ [y]) ++ x :: (S2 ++ (R' ++ B)) := by simp
            rw [this]
            exact get_app' _ _ (by simp only [List.length_append, List.length_cons, List.length_nil]; omega))
          have e3 : (j : Int) - 1 = (jp : Int) := by omega
          have HL := Lib.hid hL
          have HJL := Lib.hid hjl
          have HRR := Lib.hid hr
          have b1 : decide ((a : Int) < (j : Int)) = true := by simp; omega
          have HJP := Lib.hid hjp
          clear hL hjl hr er hA
          have hcm := fun wx (kx : Kept (fun _ => False) wr wx) => cmpJ_any x y wx (HRR.out.same kx).kept
          have hlt3 : j < N := by omega
          have hlt4 : jp < N := by omega
          have hwp : IntKind.i64.wrap (jp : Int) = (jp : Int) := by rw [IntKind.wrap_i64]; omega
          clear hjp
          by_cases hlt2 : keyJ x < keyJ y
          · have hneg : decide (cmpIJ x y < 0) = true := by simpa using (cmpJ_neg x y).2 hlt2
            have hlt2' := Lib.hid hlt2
            clear hlt2
            generalize cmpIJ x y = cv at *
            go_wp2_with fail
            refine wp_region_held_drew (S := (fun Y => Y.cell? ⟨g, j * 2, none⟩ = some (.int .i64 x.a) ∧ Y.cell? ⟨g, j * 2 + 1, none⟩ = some (.int .i64 x.n) ∧ Y.cell? ⟨g, jp * 2, none⟩ = some (.int .i64 y.a) ∧ Y.cell? ⟨g, jp * 2 + 1, none⟩ = some (.int .i64 y.n) ∧ Kept (fun _ => False) wr Y)) (by kernel_rfl) ⟨x0', x1', y0, y1, (Kept.refl _ wr).drew⟩ (fun hHeld => ?_)
            refine wpAnyH_take (i := 0) (oi := _) (v := ?_) rfl (by kernel_rfl) (by kernel_rfl) (by kernel_rfl) (fun _ _ _ h => h) (Or.inl ⟨by rfl, ?_⟩) (by assumption) ?_
            rotate_left
            · (intro w hSw; (try dsimp only at hSw); simp only [List.getElem_toArray, List.getElem_cons_zero]; go_simp)
              try with_reducible rfl
            simp only [List.getElem_toArray, List.getElem_cons_zero, Act.put, List.setIfInBounds_toArray, List.set_cons_zero, List.set_cons_succ]
            refine wpAnyH_take (i := 1) (oi := _) (v := ?_) rfl (by kernel_rfl) (by kernel_rfl) (by kernel_rfl) (fun _ _ _ h => h) (Or.inl ⟨by rfl, ?_⟩) (by assumption) ?_
            rotate_left
            · (intro w hSw; (try dsimp only at hSw); simp only [List.getElem_toArray, List.getElem_cons_succ, List.getElem_cons_zero]; go_simp)
              try with_reducible rfl
            simp only [List.getElem_toArray, List.getElem_cons_succ, List.getElem_cons_zero, Act.put, List.setIfInBounds_toArray, List.set_cons_zero, List.set_cons_succ]
            refine wpAnyH_take (i := 2) (oi := _) (v := ?_) rfl (by kernel_rfl) (by kernel_rfl) (by kernel_rfl) (fun _ _ _ h => h) (Or.inl ⟨by rfl, ?_⟩) (by assumption) ?_
            rotate_left
            · (intro w hSw; (try dsimp only at hSw); simp only [List.getElem_toArray, List.getElem_cons_succ, List.getElem_cons_zero]; go_simp)
              try with_reducible rfl
            simp only [List.getElem_toArray, List.getElem_cons_succ, List.getElem_cons_zero, Act.put, List.setIfInBounds_toArray, List.set_cons_zero, List.set_cons_succ]
            refine wpAnyH_take (i := 3) (oi := _) (v := ?_) rfl (by kernel_rfl) (by kernel_rfl) (by kernel_rfl) (fun _ _ _ h => h) (Or.inl ⟨by rfl, ?_⟩) (by assumption) ?_
            rotate_left
            · (intro w hSw; (try dsimp only at hSw); simp only [List.getElem_toArray, List.getElem_cons_succ, List.getElem_cons_zero]; go_simp)
              try with_reducible rfl
            simp only [List.getElem_toArray, List.getElem_cons_succ, List.getElem_cons_zero, Act.put, List.setIfInBounds_toArray, List.set_cons_zero, List.set_cons_succ]
            refine wpAnyH_take (i := 4) (oi := _) (v := ?_) rfl (by kernel_rfl) (by kernel_rfl) (by kernel_rfl) (fun _ _ _ h => h) (Or.inl ⟨by rfl, ?_⟩) (by assumption) ?_
            rotate_left
            · (intro w hSw; (try dsimp only at hSw); simp only [List.getElem_toArray, List.getElem_cons_succ, List.getElem_cons_zero]; go_simp)
              try with_reducible rfl
            simp only [List.getElem_toArray, List.getElem_cons_succ, List.getElem_cons_zero, Act.put, List.setIfInBounds_toArray, List.set_cons_zero, List.set_cons_succ]
            refine wpAnyH_take (i := 5) (oi := _) (v := ?_) rfl (by kernel_rfl) (by kernel_rfl) (by kernel_rfl) (fun _ _ _ h => h) (Or.inl ⟨by rfl, ?_⟩) (by assumption) ?_
            rotate_left
            · (intro w hSw; (try dsimp only at hSw); simp only [List.getElem_toArray, List.getElem_cons_succ, List.getElem_cons_zero]; go_simp)
              try with_reducible rfl
            simp only [List.getElem_toArray, List.getElem_cons_succ, List.getElem_cons_zero, Act.put, List.setIfInBounds_toArray, List.set_cons_zero, List.set_cons_succ]
            refine wpAnyH_take (i := 6) (oi := _) (v := ?_) rfl (by kernel_rfl) (by kernel_rfl) (by kernel_rfl) (fun _ _ _ h => h) (Or.inl ⟨by rfl, ?_⟩) (by assumption) ?_
            rotate_left
            · (intro w hSw; (try dsimp only at hSw); simp only [List.getElem_toArray, List.getElem_cons_succ, List.getElem_cons_zero]; go_simp)
              try with_reducible rfl
            simp only [List.getElem_toArray, List.getElem_cons_succ, List.getElem_cons_zero, Act.put, List.setIfInBounds_toArray, List.set_cons_zero, List.set_cons_succ]
            refine wpAnyH_take (i := 7) (oi := _) (v := ?_) rfl (by kernel_rfl) (by kernel_rfl) (by kernel_rfl) (fun _ _ _ h => h) (Or.inl ⟨by rfl, ?_⟩) (by assumption) ?_
            rotate_left
            · (intro w hSw; (try dsimp only at hSw); simp only [List.getElem_toArray, List.getElem_cons_succ, List.getElem_cons_zero]; go_simp)
              try with_reducible rfl
            simp only [List.getElem_toArray, List.getElem_cons_succ, List.getElem_cons_zero, Act.put, List.setIfInBounds_toArray, List.set_cons_zero, List.set_cons_succ]
            refine wpAnyH_take (i := 8) (oi := _) (v := ?_) rfl (by kernel_rfl) (by kernel_rfl) (by kernel_rfl) (fun _ _ _ h => h) (Or.inl ⟨by rfl, ?_⟩) (by assumption) ?_
            rotate_left
            · (intro w hSw; (try dsimp only at hSw); simp only [List.getElem_toArray, List.getElem_cons_succ, List.getElem_cons_zero]; go_simp)
              try with_reducible rfl
            simp only [List.getElem_toArray, List.getElem_cons_succ, List.getElem_cons_zero, Act.put, List.setIfInBounds_toArray, List.set_cons_zero, List.set_cons_succ]
            refine wpAnyH_take (i := 9) (oi := _) (v := ?_) rfl (by kernel_rfl) (by kernel_rfl) (by kernel_rfl) (fun _ _ _ h => h) (Or.inl ⟨by rfl, ?_⟩) (by assumption) ?_
            rotate_left
            · (intro w hSw; (try dsimp only at hSw); simp only [List.getElem_toArray, List.getElem_cons_succ, List.getElem_cons_zero]; go_simp)
              try with_reducible rfl
            simp only [List.getElem_toArray, List.getElem_cons_succ, List.getElem_cons_zero, Act.put, List.setIfInBounds_toArray, List.set_cons_zero, List.set_cons_succ]
            refine wpAnyH_take (i := 10) (oi := _) (v := ?_) rfl (by kernel_rfl) (by kernel_rfl) (by kernel_rfl) (fun _ _ _ h => h) (Or.inl ⟨by rfl, ?_⟩) (by assumption) ?_
            rotate_left
            · (intro w hSw; (try dsimp only at hSw); simp only [List.getElem_toArray, List.getElem_cons_succ, List.getElem_cons_zero]; go_simp)
              try with_reducible rfl
            simp only [List.getElem_toArray, List.getElem_cons_succ, List.getElem_cons_zero, Act.put, List.setIfInBounds_toArray, List.set_cons_zero, List.set_cons_succ]
            refine wpAnyH_take (i := 11) (oi := _) (v := ?_) rfl (by kernel_rfl) (by kernel_rfl) (by kernel_rfl) (fun _ _ _ h => h) (Or.inl ⟨by rfl, ?_⟩) (by assumption) ?_
            rotate_left
            · (intro w hSw; (try dsimp only at hSw); simp only [List.getElem_toArray, List.getElem_cons_succ, List.getElem_cons_zero]; go_simp)
              try with_reducible rfl
            simp only [List.getElem_toArray, List.getElem_cons_succ, List.getElem_cons_zero, Act.put, List.setIfInBounds_toArray, List.set_cons_zero, List.set_cons_succ]
            refine wpAnyH_take (i := 12) (oi := _) (v := ?_) rfl (by kernel_rfl) (by kernel_rfl) (by kernel_rfl) (fun _ _ _ h => h) (Or.inl ⟨by rfl, ?_⟩) (by assumption) ?_
            rotate_left
            · (intro w hSw; (try dsimp only at hSw); simp only [List.getElem_toArray, List.getElem_cons_succ, List.getElem_cons_zero]; go_simp)
              try with_reducible rfl
            simp only [List.getElem_toArray, List.getElem_cons_succ, List.getElem_cons_zero, Act.put, List.setIfInBounds_toArray, List.set_cons_zero, List.set_cons_succ]
            refine wpAnyH_take (i := 13) (oi := _) (v := ?_) rfl (by kernel_rfl) (by kernel_rfl) (by kernel_rfl) (fun _ _ _ h => h) (Or.inl ⟨by rfl, ?_⟩) (by assumption) ?_
            rotate_left
            · (intro w hSw; (try dsimp only at hSw); simp only [List.getElem_toArray, List.getElem_cons_succ, List.getElem_cons_zero]; go_simp)
              try with_reducible rfl
            simp only [List.getElem_toArray, List.getElem_cons_succ, List.getElem_cons_zero, Act.put, List.setIfInBounds_toArray, List.set_cons_zero, List.set_cons_succ]
            refine wpAnyH_ready (rs := [14]) (by kernel_rfl) (by simp) ?_
            refine AllReadyH.cons (o := _) rfl (fun K hK => ?_) AllReadyH.nil
            simp only [List.getElem_toArray, List.getElem_cons_succ, List.getElem_cons_zero]
            go_simp
            refine (hcm _ (Kept.refl _ wr).drew).mono ?_
            rintro e w3 ⟨rfl, k3⟩
            refine hK.out _ _ ⟨k3.cell (w := wr.drew) x0' (fun q => q), k3.cell (w := wr.drew) x1' (fun q => q), k3.cell (w := wr.drew) y0 (fun q => q), k3.cell (w := wr.drew) y1 (fun q => q), (Kept.refl _ wr).drew.trans k3⟩ (fun hHeld => ?_)
            clear hK K
            try simp only [List.getElem_toArray, List.getElem_cons_succ, List.getElem_cons_zero, Act.put, List.setIfInBounds_toArray, List.set_cons_zero, List.set_cons_succ]
            refine wpAnyH_take (i := 15) (oi := _) (v := ?_) rfl (by kernel_rfl) (by kernel_rfl) (by kernel_rfl) (fun _ _ _ h => h) (Or.inl ⟨by rfl, ?_⟩) (by assumption) ?_
            rotate_left
            · (intro w hSw; (try dsimp only at hSw); simp only [List.getElem_toArray, List.getElem_cons_succ, List.getElem_cons_zero]; go_simp)
              try with_reducible rfl
            simp only [List.getElem_toArray, List.getElem_cons_succ, List.getElem_cons_zero, Act.put, List.setIfInBounds_toArray, List.set_cons_zero, List.set_cons_succ]
            refine wpAnyH_take (i := 16) (oi := _) (v := ?_) rfl (by kernel_rfl) (by kernel_rfl) (by kernel_rfl) (fun _ _ _ h => h) (Or.inl ⟨by rfl, ?_⟩) (by assumption) ?_
            rotate_left
            · (intro w hSw; (try dsimp only at hSw); simp only [List.getElem_toArray, List.getElem_cons_succ, List.getElem_cons_zero]; go_simp)
              try with_reducible rfl
            simp only [List.getElem_toArray, List.getElem_cons_succ, List.getElem_cons_zero, Act.put, List.setIfInBounds_toArray, List.set_cons_zero, List.set_cons_succ]
            refine wpAnyH_done (by kernel_rfl) ?_ _

            obtain ⟨x0', x1', y0, y1, k3⟩ := hHeld
            have hr3 := HRR.out.same k3
            have f0 := hr3.frozen
            have HS' := Lib.hid (ArrJ.swapR (i := jp) (j := j) (Q := []) hr3 (by have := HJL.out; have := HA.out; rw [List.length_append]; omega) (by have := HJP.out; have := HJL.out; have := HA.out; simp only [List.length_append, List.length_nil]; omega))
            clear k3 hr3
            go_wp2_with fail
            go_big_region
            go_wp2_with fail
            go_roundg (gk - 1)
            case measure => have := HJP.out; omega
            case rel => exact ⟨jp, L, y :: S2, rfl, by have := HJP.out; omega, by have := HJP.out; omega, by have := HJL.out; omega, HJL.out, ⟨by rw [HSS.out.1, HL.out]; simp, fun z hz => by
              rcases List.mem_cons.1 hz with rfl | hz
              · exact Int.le_of_lt hlt2'.out
              · exact HSS.out.2 z hz⟩, by have := HS'.out.drew; unfold Hid; simpa using this⟩
          · have hneg : decide (cmpIJ x y < 0) = false := by simp; have := (cmpJ_neg x y); omega
            have hlt2' := Lib.hid hlt2
            clear hlt2
            generalize cmpIJ x y = cv at *
            go_wp2_with fail
            refine wp_region_held_drew (S := (fun Y => Y.cell? ⟨g, j * 2, none⟩ = some (.int .i64 x.a) ∧ Y.cell? ⟨g, j * 2 + 1, none⟩ = some (.int .i64 x.n) ∧ Y.cell? ⟨g, jp * 2, none⟩ = some (.int .i64 y.a) ∧ Y.cell? ⟨g, jp * 2 + 1, none⟩ = some (.int .i64 y.n) ∧ Kept (fun _ => False) wr Y)) (by kernel_rfl) ⟨x0', x1', y0, y1, (Kept.refl _ wr).drew⟩ (fun hHeld => ?_)
            refine wpAnyH_take (i := 0) (oi := _) (v := ?_) rfl (by kernel_rfl) (by kernel_rfl) (by kernel_rfl) (fun _ _ _ h => h) (Or.inl ⟨by rfl, ?_⟩) (by assumption) ?_
            rotate_left
            · (intro w hSw; (try dsimp only at hSw); simp only [List.getElem_toArray, List.getElem_cons_zero]; go_simp)
              try with_reducible rfl
            simp only [List.getElem_toArray, List.getElem_cons_zero, Act.put, List.setIfInBounds_toArray, List.set_cons_zero, List.set_cons_succ]
            refine wpAnyH_take (i := 1) (oi := _) (v := ?_) rfl (by kernel_rfl) (by kernel_rfl) (by kernel_rfl) (fun _ _ _ h => h) (Or.inl ⟨by rfl, ?_⟩) (by assumption) ?_
            rotate_left
            · (intro w hSw; (try dsimp only at hSw); simp only [List.getElem_toArray, List.getElem_cons_succ, List.getElem_cons_zero]; go_simp)
              try with_reducible rfl
            simp only [List.getElem_toArray, List.getElem_cons_succ, List.getElem_cons_zero, Act.put, List.setIfInBounds_toArray, List.set_cons_zero, List.set_cons_succ]
            refine wpAnyH_take (i := 2) (oi := _) (v := ?_) rfl (by kernel_rfl) (by kernel_rfl) (by kernel_rfl) (fun _ _ _ h => h) (Or.inl ⟨by rfl, ?_⟩) (by assumption) ?_
            rotate_left
            · (intro w hSw; (try dsimp only at hSw); simp only [List.getElem_toArray, List.getElem_cons_succ, List.getElem_cons_zero]; go_simp)
              try with_reducible rfl
            simp only [List.getElem_toArray, List.getElem_cons_succ, List.getElem_cons_zero, Act.put, List.setIfInBounds_toArray, List.set_cons_zero, List.set_cons_succ]
            refine wpAnyH_take (i := 3) (oi := _) (v := ?_) rfl (by kernel_rfl) (by kernel_rfl) (by kernel_rfl) (fun _ _ _ h => h) (Or.inl ⟨by rfl, ?_⟩) (by assumption) ?_
            rotate_left
            · (intro w hSw; (try dsimp only at hSw); simp only [List.getElem_toArray, List.getElem_cons_succ, List.getElem_cons_zero]; go_simp)
              try with_reducible rfl
            simp only [List.getElem_toArray, List.getElem_cons_succ, List.getElem_cons_zero, Act.put, List.setIfInBounds_toArray, List.set_cons_zero, List.set_cons_succ]
            refine wpAnyH_take (i := 4) (oi := _) (v := ?_) rfl (by kernel_rfl) (by kernel_rfl) (by kernel_rfl) (fun _ _ _ h => h) (Or.inl ⟨by rfl, ?_⟩) (by assumption) ?_
            rotate_left
            · (intro w hSw; (try dsimp only at hSw); simp only [List.getElem_toArray, List.getElem_cons_succ, List.getElem_cons_zero]; go_simp)
              try with_reducible rfl
            simp only [List.getElem_toArray, List.getElem_cons_succ, List.getElem_cons_zero, Act.put, List.setIfInBounds_toArray, List.set_cons_zero, List.set_cons_succ]
            refine wpAnyH_take (i := 5) (oi := _) (v := ?_) rfl (by kernel_rfl) (by kernel_rfl) (by kernel_rfl) (fun _ _ _ h => h) (Or.inl ⟨by rfl, ?_⟩) (by assumption) ?_
            rotate_left
            · (intro w hSw; (try dsimp only at hSw); simp only [List.getElem_toArray, List.getElem_cons_succ, List.getElem_cons_zero]; go_simp)
              try with_reducible rfl
            simp only [List.getElem_toArray, List.getElem_cons_succ, List.getElem_cons_zero, Act.put, List.setIfInBounds_toArray, List.set_cons_zero, List.set_cons_succ]
            refine wpAnyH_take (i := 6) (oi := _) (v := ?_) rfl (by kernel_rfl) (by kernel_rfl) (by kernel_rfl) (fun _ _ _ h => h) (Or.inl ⟨by rfl, ?_⟩) (by assumption) ?_
            rotate_left
            · (intro w hSw; (try dsimp only at hSw); simp only [List.getElem_toArray, List.getElem_cons_succ, List.getElem_cons_zero]; go_simp)
              try with_reducible rfl
            simp only [List.getElem_toArray, List.getElem_cons_succ, List.getElem_cons_zero, Act.put, List.setIfInBounds_toArray, List.set_cons_zero, List.set_cons_succ]
            refine wpAnyH_take (i := 7) (oi := _) (v := ?_) rfl (by kernel_rfl) (by kernel_rfl) (by kernel_rfl) (fun _ _ _ h => h) (Or.inl ⟨by rfl, ?_⟩) (by assumption) ?_
            rotate_left
            · (intro w hSw; (try dsimp only at hSw); simp only [List.getElem_toArray, List.getElem_cons_succ, List.getElem_cons_zero]; go_simp)
              try with_reducible rfl
            simp only [List.getElem_toArray, List.getElem_cons_succ, List.getElem_cons_zero, Act.put, List.setIfInBounds_toArray, List.set_cons_zero, List.set_cons_succ]
            refine wpAnyH_take (i := 8) (oi := _) (v := ?_) rfl (by kernel_rfl) (by kernel_rfl) (by kernel_rfl) (fun _ _ _ h => h) (Or.inl ⟨by rfl, ?_⟩) (by assumption) ?_
            rotate_left
            · (intro w hSw; (try dsimp only at hSw); simp only [List.getElem_toArray, List.getElem_cons_succ, List.getElem_cons_zero]; go_simp)
              try with_reducible rfl
            simp only [List.getElem_toArray, List.getElem_cons_succ, List.getElem_cons_zero, Act.put, List.setIfInBounds_toArray, List.set_cons_zero, List.set_cons_succ]
            refine wpAnyH_take (i := 9) (oi := _) (v := ?_) rfl (by kernel_rfl) (by kernel_rfl) (by kernel_rfl) (fun _ _ _ h => h) (Or.inl ⟨by rfl, ?_⟩) (by assumption) ?_
            rotate_left
            · (intro w hSw; (try dsimp only at hSw); simp only [List.getElem_toArray, List.getElem_cons_succ, List.getElem_cons_zero]; go_simp)
              try with_reducible rfl
            simp only [List.getElem_toArray, List.getElem_cons_succ, List.getElem_cons_zero, Act.put, List.setIfInBounds_toArray, List.set_cons_zero, List.set_cons_succ]
            refine wpAnyH_take (i := 10) (oi := _) (v := ?_) rfl (by kernel_rfl) (by kernel_rfl) (by kernel_rfl) (fun _ _ _ h => h) (Or.inl ⟨by rfl, ?_⟩) (by assumption) ?_
            rotate_left
            · (intro w hSw; (try dsimp only at hSw); simp only [List.getElem_toArray, List.getElem_cons_succ, List.getElem_cons_zero]; go_simp)
              try with_reducible rfl
            simp only [List.getElem_toArray, List.getElem_cons_succ, List.getElem_cons_zero, Act.put, List.setIfInBounds_toArray, List.set_cons_zero, List.set_cons_succ]
            refine wpAnyH_take (i := 11) (oi := _) (v := ?_) rfl (by kernel_rfl) (by kernel_rfl) (by kernel_rfl) (fun _ _ _ h => h) (Or.inl ⟨by rfl, ?_⟩) (by assumption) ?_
            rotate_left
            · (intro w hSw; (try dsimp only at hSw); simp only [List.getElem_toArray, List.getElem_cons_succ, List.getElem_cons_zero]; go_simp)
              try with_reducible rfl
            simp only [List.getElem_toArray, List.getElem_cons_succ, List.getElem_cons_zero, Act.put, List.setIfInBounds_toArray, List.set_cons_zero, List.set_cons_succ]
            refine wpAnyH_take (i := 12) (oi := _) (v := ?_) rfl (by kernel_rfl) (by kernel_rfl) (by kernel_rfl) (fun _ _ _ h => h) (Or.inl ⟨by rfl, ?_⟩) (by assumption) ?_
            rotate_left
            · (intro w hSw; (try dsimp only at hSw); simp only [List.getElem_toArray, List.getElem_cons_succ, List.getElem_cons_zero]; go_simp)
              try with_reducible rfl
            simp only [List.getElem_toArray, List.getElem_cons_succ, List.getElem_cons_zero, Act.put, List.setIfInBounds_toArray, List.set_cons_zero, List.set_cons_succ]
            refine wpAnyH_take (i := 13) (oi := _) (v := ?_) rfl (by kernel_rfl) (by kernel_rfl) (by kernel_rfl) (fun _ _ _ h => h) (Or.inl ⟨by rfl, ?_⟩) (by assumption) ?_
            rotate_left
            · (intro w hSw; (try dsimp only at hSw); simp only [List.getElem_toArray, List.getElem_cons_succ, List.getElem_cons_zero]; go_simp)
              try with_reducible rfl
            simp only [List.getElem_toArray, List.getElem_cons_succ, List.getElem_cons_zero, Act.put, List.setIfInBounds_toArray, List.set_cons_zero, List.set_cons_succ]
            refine wpAnyH_ready (rs := [14]) (by kernel_rfl) (by simp) ?_
            refine AllReadyH.cons (o := _) rfl (fun K hK => ?_) AllReadyH.nil
            simp only [List.getElem_toArray, List.getElem_cons_succ, List.getElem_cons_zero]
            go_simp
            refine (hcm _ (Kept.refl _ wr).drew).mono ?_
            rintro e w3 ⟨rfl, k3⟩
            refine hK.out _ _ ⟨k3.cell (w := wr.drew) x0' (fun q => q), k3.cell (w := wr.drew) x1' (fun q => q), k3.cell (w := wr.drew) y0 (fun q => q), k3.cell (w := wr.drew) y1 (fun q => q), (Kept.refl _ wr).drew.trans k3⟩ (fun hHeld => ?_)
            clear hK K
            try simp only [List.getElem_toArray, List.getElem_cons_succ, List.getElem_cons_zero, Act.put, List.setIfInBounds_toArray, List.set_cons_zero, List.set_cons_succ]
            refine wpAnyH_take (i := 15) (oi := _) (v := ?_) rfl (by kernel_rfl) (by kernel_rfl) (by kernel_rfl) (fun _ _ _ h => h) (Or.inl ⟨by rfl, ?_⟩) (by assumption) ?_
            rotate_left
            · (intro w hSw; (try dsimp only at hSw); simp only [List.getElem_toArray, List.getElem_cons_succ, List.getElem_cons_zero]; go_simp)
              try with_reducible rfl
            simp only [List.getElem_toArray, List.getElem_cons_succ, List.getElem_cons_zero, Act.put, List.setIfInBounds_toArray, List.set_cons_zero, List.set_cons_succ]
            refine wpAnyH_take (i := 16) (oi := _) (v := ?_) rfl (by kernel_rfl) (by kernel_rfl) (by kernel_rfl) (fun _ _ _ h => h) (Or.inl ⟨by rfl, ?_⟩) (by assumption) ?_
            rotate_left
            · (intro w hSw; (try dsimp only at hSw); simp only [List.getElem_toArray, List.getElem_cons_succ, List.getElem_cons_zero]; go_simp)
              try with_reducible rfl
            simp only [List.getElem_toArray, List.getElem_cons_succ, List.getElem_cons_zero, Act.put, List.setIfInBounds_toArray, List.set_cons_zero, List.set_cons_succ]
            refine wpAnyH_done (by kernel_rfl) ?_ _

            have K3 := Lib.hid hHeld.2.2.2.2
            have DN2 := DN.out (.inr (fun z hz => by
              rw [HL.out] at hz
              simp only [List.getLast?_append, List.getLast?_singleton, Option.some_or, Option.some.injEq] at hz
              subst hz
              have := hlt2'.out
              omega))
            clear hHeld
            go_wp2_with fail
            go_roundg (G - 1)
            case measure => have := HG.out; omega
            case rel =>
              obtain ⟨S', s1, s2, s3⟩ := DN2.out
              exact ⟨i + 1, S', R', int_eq (by omega), by have := HG.out; omega, by omega, s1, s2, s3.same K3.out⟩
        · have e : j = a := by omega
          have b1 : decide ((a : Int) < (j : Int)) = false := by simp; omega
          have DN2 := DN.out (.inl e)
          have E := Lib.hid e
          clear e
          go_wp2_with fail
          go_big_region
          go_wp2_with fail
          go_roundg (G - 1)
          case measure => have := HG.out; omega
          case rel =>
            obtain ⟨S', s1, s2, s3⟩ := DN2.out
            exact ⟨i + 1, S', R', int_eq (by omega), by have := HG.out; omega, by omega, s1, s2, s3.drew⟩
    · have hRn : R = [] := by
        have := HS.out.2.length_eq
        rw [List.length_append, List.length_cons] at this
        exact List.eq_nil_of_length_eq_zero (by have := HI.out; have := HB.out; have := HA.out; omega)
      subst hRn
      go_wp2_with fail
      go_end0
      obtain ⟨s1, s2⟩ := HS.out
      rw [List.append_nil] at s2
      exact ⟨rfl, S, s2, s1, by have := HR.out; simpa using this⟩
end Go.Proofs.YthkeigljiinlbaaGreat
