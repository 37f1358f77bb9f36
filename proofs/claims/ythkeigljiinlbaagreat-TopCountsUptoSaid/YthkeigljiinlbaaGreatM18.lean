/- slices.SortStableFunc of jumps: merging, where the left half is one thing. -/
import Derived.Test.YthkeigljiinlbaaGreatM17
import Derived.Deep.RegionHeld3
namespace Go.Proofs.YthkeigljiinlbaaGreat
open Go.RowKit

set_option maxHeartbeats 2000000 in
set_option maxRecDepth 100000 in
theorem sym1J (g cap : Nat) (w : World) (A : List Jp) (x : Jp) (Y B : List Jp) (W : World) (a m b N : Nat) (ha : a = A.length) (hm : m = A.length + 1) (hb : b = A.length + 1 + Y.length) (hN : N = (A ++ (x :: (Y ++ B))).length) (hN2 : N ≤ 1048576) (hY : Srt keyJ Y) (h : Arr encJ 2 80 w W g cap (A ++ (x :: (Y ++ B)))) :
    Calls Tryz.prog 157 #[.slice (some ⟨g, 0, none⟩) N cap, .int .i64 a, .int .i64 m, .int .i64 b, .func (.func 98) #[] #[]] W fun e w' => e = .returned (.tuple #[]) ∧ ∃ Z : List Jp, Z.Perm (x :: Y) ∧ Srt keyJ Z ∧ Arr encJ 2 80 w w' g cap (A ++ (Z ++ B)) := by
  have HN := Lib.hid (show N = A.length + 1 + Y.length + B.length by rw [hN]; simp only [List.length_append, List.length_cons]; omega)
  have HA := Lib.hid ha
  have HM := Lib.hid hm
  have HB := Lib.hid hb
  have HH := Lib.hid h
  have e1 : (m : Int) - (a : Int) = 1 := by omega
  obtain ⟨bb, bm, ba⟩ : b ≤ 1048576 ∧ m ≤ b ∧ a < m := by have := HN.out; omega
  have bN : b ≤ N := by have := HN.out; omega
  clear ha hm hb hN h
  go_enter Tryz.func157, Tryz.ntmps157
  go_wp2_with fail
  clear e1
  go_loopg [10, 11, 12] b (fun k iv jv hv wr => ∃ (i j : Nat), iv = .int .i64 i ∧ jv = .int .i64 j ∧ m ≤ i ∧ i ≤ j ∧ j ≤ b ∧ j - i ≤ k ∧ Hid (∀ c, m ≤ c → c < i → kd keyJ (A ++ (x :: (Y ++ B))) c < keyJ x) ∧ Hid (∀ c, j ≤ c → c < b → keyJ x ≤ kd keyJ (A ++ (x :: (Y ++ B))) c) ∧ Hid (Arr encJ 2 80 w wr g cap (A ++ (x :: (Y ++ B)))))
  case atStart => exact ⟨m, b, rfl, rfl, Nat.le_refl _, bm, Nat.le_refl _, by omega, fun c q1 q2 => by omega, fun c q1 q2 => by omega, HH.out⟩
  case round =>
    obtain ⟨i, j, rfl, rfl, hi, hij, hj, hk, H1, H2, HR⟩ := hrel
    by_cases hlt : i < j
    · obtain ⟨hh, Hh⟩ : ∃ hh, Hid (hh = (i + j) / 2) := ⟨_, rfl⟩
      have hb1 : i ≤ hh ∧ hh < j := by have := Hh.out; omega
      have e2 : ((i : Int) + (j : Int)) / 2 = (hh : Int) := by have := Hh.out; omega
      have hhN : hh < N := by omega
      have haN : a < N := by omega
      obtain ⟨y, hy⟩ : ∃ y, (A ++ (x :: (Y ++ B)))[hh]? = some y := ⟨_, List.getElem?_eq_getElem (by simp only [List.length_append, List.length_cons]; have := HN.out; omega)⟩
      obtain ⟨y0, y1⟩ := ArrJ.cells HR.out hy
      obtain ⟨x0, x1⟩ := ArrJ.cells HR.out (i := a) (x := x) (get_app' _ _ HA.out)
      have hky := kd_of (key := keyJ) hy
      have hcm := fun wx (kx : Kept (fun _ => False) wr wx) => cmpJ_any y x wx (HR.out.same kx).kept
      have sor : ∀ c d, m ≤ c → c ≤ d → d < b → kd keyJ (A ++ (x :: (Y ++ B))) c ≤ kd keyJ (A ++ (x :: (Y ++ B))) d := fun c d q1 q2 q3 => by
        have e : A ++ (x :: (Y ++ B)) = (A ++ [x]) ++ (Y ++ B) := by simp
        rw [e]
        exact hY.kd (by rw [List.length_append]; have := HM.out; simp only [List.length_cons, List.length_nil]; omega) q2 (by rw [List.length_append]; have := HB.out; simp only [List.length_cons, List.length_nil]; omega)
      have SO := Lib.hid sor
      have HKY := Lib.hid hky
      clear sor hky hy
      by_cases hlt2 : keyJ y < keyJ x
      · have hneg : decide (cmpIJ y x < 0) = true := by simpa using (cmpJ_neg y x).2 hlt2
        have hlt2' := Lib.hid hlt2
        clear hlt2
        generalize cmpIJ y x = cv at *
        go_wp2_with fail
        go_region_held3 (fun V => V.cell? ⟨g, hh * 2, none⟩ = some (.int .i64 y.a) ∧ V.cell? ⟨g, hh * 2 + 1, none⟩ = some (.int .i64 y.n) ∧ V.cell? ⟨g, a * 2, none⟩ = some (.int .i64 x.a) ∧ V.cell? ⟨g, a * 2 + 1, none⟩ = some (.int .i64 x.n) ∧ Kept (fun _ => False) wr V)
          (first | exact ⟨y0, y1, x0, x1, (Kept.refl _ wr).drew⟩ | exact ⟨k3.cell (w := wr.drew) y0 (fun q => q), k3.cell (w := wr.drew) y1 (fun q => q), k3.cell (w := wr.drew) x0 (fun q => q), k3.cell (w := wr.drew) x1 (fun q => q), (Kept.refl _ wr).drew.trans k3⟩)
          (first | (refine (hcm _ (Kept.refl _ wr).drew).mono ?_; rintro e w3 ⟨rfl, k3⟩))
        have K3 := Lib.hid ((Kept.refl (fun _ => False) wr).drew.trans k3)
        clear k3
        go_wp2_with fail
        go_roundg (j - (hh + 1))
        case measure => omega
        case rel =>
          refine ⟨hh + 1, j, int_eq (by omega), rfl, by omega, by omega, hj, Nat.le_refl _, fun c q1 q2 => ?_, H2, HR.out.same K3.out⟩
          have := SO.out c hh q1 (by omega) (by omega)
          have := HKY.out
          have := hlt2'.out
          omega
      · have hneg : decide (cmpIJ y x < 0) = false := by simp; have := (cmpJ_neg y x); omega
        have hlt2' := Lib.hid hlt2
        clear hlt2
        generalize cmpIJ y x = cv at *
        go_wp2_with fail
        go_region_held3 (fun V => V.cell? ⟨g, hh * 2, none⟩ = some (.int .i64 y.a) ∧ V.cell? ⟨g, hh * 2 + 1, none⟩ = some (.int .i64 y.n) ∧ V.cell? ⟨g, a * 2, none⟩ = some (.int .i64 x.a) ∧ V.cell? ⟨g, a * 2 + 1, none⟩ = some (.int .i64 x.n) ∧ Kept (fun _ => False) wr V)
          (first | exact ⟨y0, y1, x0, x1, (Kept.refl _ wr).drew⟩ | exact ⟨k3.cell (w := wr.drew) y0 (fun q => q), k3.cell (w := wr.drew) y1 (fun q => q), k3.cell (w := wr.drew) x0 (fun q => q), k3.cell (w := wr.drew) x1 (fun q => q), (Kept.refl _ wr).drew.trans k3⟩)
          (first | (refine (hcm _ (Kept.refl _ wr).drew).mono ?_; rintro e w3 ⟨rfl, k3⟩))
        have K3 := Lib.hid ((Kept.refl (fun _ => False) wr).drew.trans k3)
        clear k3
        go_wp2_with fail
        go_roundg (hh - i)
        case measure => omega
        case rel =>
          refine ⟨i, hh, rfl, rfl, hi, by omega, by omega, Nat.le_refl _, H1, fun c q1 q2 => ?_, HR.out.same K3.out⟩
          have := SO.out hh c (by omega) q1 q2
          have := HKY.out
          have := hlt2'.out
          omega
    · have e : i = j := by omega
      subst e
      obtain ⟨Y1, Y2, HYY, HY1⟩ : ∃ Y1 Y2, Hid (Y = Y1 ++ Y2) ∧ Hid (i = m + Y1.length) := by
        obtain ⟨Y1, Y2, q1, q2⟩ := part_at (X := Y) (k := i - m) (by have := HB.out; have := HM.out; omega)
        exact ⟨Y1, Y2, q1, by unfold Hid; omega⟩
      have hk1 : Hid (∀ y ∈ Y1, keyJ y < keyJ x) := fun y hy => by
        obtain ⟨c, c1, c2, c3⟩ := kd_mem (key := keyJ) (A := A ++ [x]) (X := Y1) (B := Y2 ++ B) hy
        have e : (A ++ [x]) ++ (Y1 ++ (Y2 ++ B)) = A ++ (x :: (Y ++ B)) := by rw [HYY.out]; simp
        rw [e] at c3
        rw [List.length_append] at c1 c2
        simp only [List.length_cons, List.length_nil] at c1 c2
        have := H1.out c (by have := HM.out; omega) (by have := HY1.out; have := HM.out; omega)
        omega
      have hk2 : Hid (∀ y ∈ Y2, keyJ x ≤ keyJ y) := fun y hy => by
        obtain ⟨c, c1, c2, c3⟩ := kd_mem (key := keyJ) (A := A ++ (x :: Y1)) (X := Y2) (B := B) hy
        have e : (A ++ (x :: Y1)) ++ (Y2 ++ B) = A ++ (x :: (Y ++ B)) := by rw [HYY.out]; simp
        rw [e] at c3
        rw [List.length_append] at c1 c2
        simp only [List.length_cons] at c1 c2
        have hl := congrArg List.length HYY.out
        rw [List.length_append] at hl
        have := H2.out c (by have := HM.out; have := HY1.out; omega) (by have := HB.out; omega)
        omega
      have e3 : (i : Int) - 1 = ((a + Y1.length : Nat) : Int) := by have := HY1.out; have := HM.out; have := HA.out; omega
      obtain ⟨ie, hie⟩ : ∃ ie, a + Y1.length = ie := ⟨_, rfl⟩
      rw [hie] at e3
      have HIE := Lib.hid hie
      have bie : ie < b := by have := HY1.out; have := HM.out; have := HA.out; omega
      clear hie hk
      go_wp2_with fail
      go_loopg [13] (ie - a) (fun k kv wr => ∃ (p : Nat) (P Q : List Jp), kv = .int .i64 p ∧ a ≤ p ∧ p ≤ ie ∧ p + k = ie ∧ Hid (Y1 = P ++ Q) ∧ Hid (p = a + P.length) ∧ Hid (Arr encJ 2 80 w wr g cap (A ++ (P ++ (x :: (Q ++ (Y2 ++ B)))))))
      case atStart => exact ⟨a, [], Y1, rfl, Nat.le_refl _, by have := HIE.out; omega, by have := HIE.out; omega, rfl, rfl, by have := HR.out; rw [HYY.out] at this; unfold Hid; simpa using this⟩
      case round =>
        obtain ⟨p, P, Q, rfl, hap, hpe, hpk, HP, HPL, HR2⟩ := hrel
        by_cases hlt : p < ie
        · obtain ⟨y, Q', hQ⟩ : ∃ y Q', Q = y :: Q' := by
            cases Q with
            | nil =>
              have := congrArg List.length HP.out
              rw [List.append_nil] at this
              have := HPL.out
              have := HIE.out
              omega
            | cons y Q' => exact ⟨y, Q', rfl⟩
          subst hQ
          have hr := HR2.out
          have er : A ++ (P ++ (x :: (y :: Q' ++ (Y2 ++ B)))) = (A ++ P) ++ x :: ([] ++ y :: (Q' ++ (Y2 ++ B))) := by simp
          rw [er] at hr
          have hA := HA.out
          have hPL := HPL.out
          obtain ⟨pp, hpp⟩ : ∃ pp, pp = p + 1 := ⟨_, rfl⟩
          obtain ⟨x0, x1⟩ := ArrJ.cells hr (i := p) (get_app' _ _ (by rw [List.length_append]; omega))
          obtain ⟨y0, y1⟩ := ArrJ.cells hr (i := pp) (x := y) (by
            have : (A ++ P) ++ x :: ([] ++ y :: (Q' ++ (Y2 ++ B))) = ((A ++ P) ++ [x]) ++ y :: (Q' ++ (Y2 ++ B)) := by simp
            rw [this]
            exact get_app' _ _ (by simp only [List.length_append, List.length_cons, List.length_nil]; omega))
          obtain ⟨u0, u1⟩ := ArrJ.mid (i := p) (j := pp) (Q := []) hr (by rw [List.length_append]; omega) (by simp only [List.length_append, List.length_nil]; omega)
          have HS := Lib.hid (ArrJ.swap (i := p) (j := pp) (Q := []) hr (by rw [List.length_append]; omega) (by simp only [List.length_append, List.length_nil]; omega))
          have f0 := hr.frozen
          have e4 : (p : Int) + 1 = (pp : Int) := by omega
          have HPP := Lib.hid hpp
          have bpp : pp < N := by omega
          have bp : p < N := by omega
          clear hr er hA hPL hpp
          go_wp2_with fail
          go_big_region
          go_wp2_with fail
          go_roundg (gk - 1)
          case measure => omega
          case rel => exact ⟨pp, P ++ [y], Q', rfl, by have := HPP.out; omega, by have := HPP.out; omega, by have := HPP.out; omega, by unfold Hid; rw [HP.out]; simp, by unfold Hid; rw [List.length_append]; have := HPL.out; have := HPP.out; simp only [List.length_cons, List.length_nil]; omega, by have := HS.out.drew; unfold Hid; simpa using this⟩
        · have hQ : Q = [] := by
            have := congrArg List.length HP.out
            rw [List.length_append] at this
            have := HPL.out
            have := HIE.out
            exact List.eq_nil_of_length_eq_zero (by omega)
          subst hQ
          have e : p = ie := by omega
          go_wp2_with fail
          refine bodyPost_ret (results_none rfl _ _ _) rfl ?_
          have hs := hY
          rw [HYY.out] at hs
          obtain ⟨s1, s2, s3⟩ := srt_append.1 hs
          have hP := HP.out
          rw [List.append_nil] at hP
          subst hP
          refine ⟨rfl, Y1 ++ x :: Y2, ?_, ?_, by have := HR2.out; simpa using this⟩
          · rw [HYY.out]; exact List.perm_middle
          · refine srt_append.2 ⟨s1, ?_, fun y hy z hz => ?_⟩
            · unfold Srt; rw [List.pairwise_cons]; exact ⟨hk2.out, s2⟩
            · rcases List.mem_cons.1 hz with rfl | hz
              · exact Int.le_of_lt (hk1.out y hy)
              · exact s3 y hy z hz
end Go.Proofs.YthkeigljiinlbaaGreat

/- slices.SortStableFunc of jumps: merging, where the right half is one thing. -/
namespace Go.Proofs.YthkeigljiinlbaaGreat
open Go.RowKit

set_option maxHeartbeats 2000000 in
set_option maxRecDepth 100000 in
theorem sym2J (g cap : Nat) (w : World) (A X : List Jp) (y : Jp) (B : List Jp) (W : World) (a m b N : Nat) (ha : a = A.length) (hm : m = A.length + X.length) (hb : b = A.length + X.length + 1) (hX2 : 2 ≤ X.length) (hN : N = (A ++ (X ++ (y :: B))).length) (hN2 : N ≤ 1048576) (hX : Srt keyJ X) (h : Arr encJ 2 80 w W g cap (A ++ (X ++ (y :: B)))) :
    Calls Tryz.prog 157 #[.slice (some ⟨g, 0, none⟩) N cap, .int .i64 a, .int .i64 m, .int .i64 b, .func (.func 98) #[] #[]] W fun e w' => e = .returned (.tuple #[]) ∧ ∃ Z : List Jp, Z.Perm (X ++ [y]) ∧ Srt keyJ Z ∧ Arr encJ 2 80 w w' g cap (A ++ (Z ++ B)) := by
  have HN := Lib.hid (show N = A.length + X.length + 1 + B.length by rw [hN]; simp only [List.length_append, List.length_cons]; omega)
  have HA := Lib.hid ha
  have HM := Lib.hid hm
  have HB := Lib.hid hb
  have HH := Lib.hid h
  have e1 : (b : Int) - (m : Int) = 1 := by omega
  obtain ⟨ma, hma⟩ : ∃ ma : Nat, (m : Int) - (a : Int) = (ma : Int) := ⟨m - a, by omega⟩
  have e0 : ((ma : Int) == 1) = false := by simp; omega
  obtain ⟨bb, bm, ba⟩ : b ≤ 1048576 ∧ m < b ∧ a < m := by have := HN.out; omega
  have bN : b ≤ N := by have := HN.out; omega
  clear ha hm hb hN h
  go_enter Tryz.func157, Tryz.ntmps157
  go_wp2_with fail
  clear e1 e0 hma
  go_loopg [14, 15, 16] m (fun k iv jv hv wr => ∃ (i j : Nat), iv = .int .i64 i ∧ jv = .int .i64 j ∧ a ≤ i ∧ i ≤ j ∧ j ≤ m ∧ j - i ≤ k ∧ Hid (∀ c, a ≤ c → c < i → kd keyJ (A ++ (X ++ (y :: B))) c ≤ keyJ y) ∧ Hid (∀ c, j ≤ c → c < m → keyJ y < kd keyJ (A ++ (X ++ (y :: B))) c) ∧ Hid (Arr encJ 2 80 w wr g cap (A ++ (X ++ (y :: B)))))
  case atStart => exact ⟨a, m, rfl, rfl, Nat.le_refl _, by omega, Nat.le_refl _, by omega, fun c q1 q2 => by omega, fun c q1 q2 => by omega, HH.out⟩
  case round =>
    obtain ⟨i, j, rfl, rfl, hi, hij, hj, hk, H1, H2, HR⟩ := hrel
    by_cases hlt : i < j
    · obtain ⟨hh, Hh⟩ : ∃ hh, Hid (hh = (i + j) / 2) := ⟨_, rfl⟩
      have hb1 : i ≤ hh ∧ hh < j := by have := Hh.out; omega
      have e2 : ((i : Int) + (j : Int)) / 2 = (hh : Int) := by have := Hh.out; omega
      have hhN : hh < N := by omega
      have hmN : m < N := by omega
      obtain ⟨x, hx⟩ : ∃ x, (A ++ (X ++ (y :: B)))[hh]? = some x := ⟨_, List.getElem?_eq_getElem (by simp only [List.length_append, List.length_cons]; have := HN.out; omega)⟩
      obtain ⟨x0, x1⟩ := ArrJ.cells HR.out hx
      obtain ⟨y0, y1⟩ := ArrJ.cells HR.out (i := m) (x := y) (by
        have e : (A ++ (X ++ (y :: B))) = (A ++ X) ++ y :: B := by simp
        rw [e]
        exact get_app' _ _ (by rw [List.length_append]; exact HM.out))
      have hkx := kd_of (key := keyJ) hx
      have hcm := fun wx (kx : Kept (fun _ => False) wr wx) => cmpJ_any y x wx (HR.out.same kx).kept
      have sor : ∀ c d, a ≤ c → c ≤ d → d < m → kd keyJ (A ++ (X ++ (y :: B))) c ≤ kd keyJ (A ++ (X ++ (y :: B))) d := fun c d q1 q2 q3 =>
        hX.kd (by have := HA.out; omega) q2 (by have := HM.out; omega)
      have SO := Lib.hid sor
      have HKX := Lib.hid hkx
      clear sor hkx hx
      by_cases hlt2 : keyJ y < keyJ x
      · have hneg : decide (cmpIJ y x < 0) = true := by simpa using (cmpJ_neg y x).2 hlt2
        have hlt2' := Lib.hid hlt2
        clear hlt2
        generalize cmpIJ y x = cv at *
        go_wp2_with fail
        go_region_held3 (fun V => V.cell? ⟨g, m * 2, none⟩ = some (.int .i64 y.a) ∧ V.cell? ⟨g, m * 2 + 1, none⟩ = some (.int .i64 y.n) ∧ V.cell? ⟨g, hh * 2, none⟩ = some (.int .i64 x.a) ∧ V.cell? ⟨g, hh * 2 + 1, none⟩ = some (.int .i64 x.n) ∧ Kept (fun _ => False) wr V)
          (first | exact ⟨y0, y1, x0, x1, (Kept.refl _ wr).drew⟩ | exact ⟨k3.cell (w := wr.drew) y0 (fun q => q), k3.cell (w := wr.drew) y1 (fun q => q), k3.cell (w := wr.drew) x0 (fun q => q), k3.cell (w := wr.drew) x1 (fun q => q), (Kept.refl _ wr).drew.trans k3⟩)
          (first | (refine (hcm _ (Kept.refl _ wr).drew).mono ?_; rintro e w3 ⟨rfl, k3⟩))
        have K3 := Lib.hid ((Kept.refl (fun _ => False) wr).drew.trans k3)
        clear k3
        go_wp2_with fail
        go_roundg (hh - i)
        case measure => omega
        case rel =>
          refine ⟨i, hh, rfl, rfl, hi, by omega, by omega, Nat.le_refl _, H1, fun c q1 q2 => ?_, HR.out.same K3.out⟩
          have := SO.out hh c (by omega) q1 q2
          have := HKX.out
          have := hlt2'.out
          omega
      · have hneg : decide (cmpIJ y x < 0) = false := by simp; have := (cmpJ_neg y x); omega
        have hlt2' := Lib.hid hlt2
        clear hlt2
        generalize cmpIJ y x = cv at *
        go_wp2_with fail
        go_region_held3 (fun V => V.cell? ⟨g, m * 2, none⟩ = some (.int .i64 y.a) ∧ V.cell? ⟨g, m * 2 + 1, none⟩ = some (.int .i64 y.n) ∧ V.cell? ⟨g, hh * 2, none⟩ = some (.int .i64 x.a) ∧ V.cell? ⟨g, hh * 2 + 1, none⟩ = some (.int .i64 x.n) ∧ Kept (fun _ => False) wr V)
          (first | exact ⟨y0, y1, x0, x1, (Kept.refl _ wr).drew⟩ | exact ⟨k3.cell (w := wr.drew) y0 (fun q => q), k3.cell (w := wr.drew) y1 (fun q => q), k3.cell (w := wr.drew) x0 (fun q => q), k3.cell (w := wr.drew) x1 (fun q => q), (Kept.refl _ wr).drew.trans k3⟩)
          (first | (refine (hcm _ (Kept.refl _ wr).drew).mono ?_; rintro e w3 ⟨rfl, k3⟩))
        have K3 := Lib.hid ((Kept.refl (fun _ => False) wr).drew.trans k3)
        clear k3
        go_wp2_with fail
        go_roundg (j - (hh + 1))
        case measure => omega
        case rel =>
          refine ⟨hh + 1, j, int_eq (by omega), rfl, by omega, by omega, hj, Nat.le_refl _, fun c q1 q2 => ?_, H2, HR.out.same K3.out⟩
          have := SO.out c hh q1 (by omega) (by omega)
          have := HKX.out
          have := hlt2'.out
          omega
    · have e : i = j := by omega
      subst e
      obtain ⟨X1, X2, HXX, HX1⟩ : ∃ X1 X2, Hid (X = X1 ++ X2) ∧ Hid (i = a + X1.length) := by
        obtain ⟨X1, X2, q1, q2⟩ := part_at (X := X) (k := i - a) (by have := HA.out; have := HM.out; omega)
        exact ⟨X1, X2, q1, by unfold Hid; omega⟩
      have HL : Hid (X.length = X1.length + X2.length) := by unfold Hid; rw [HXX.out, List.length_append]
      have hk1 : Hid (∀ x ∈ X1, keyJ x ≤ keyJ y) := fun x hx => by
        obtain ⟨c, c1, c2, c3⟩ := kd_mem (key := keyJ) (A := A) (X := X1) (B := X2 ++ (y :: B)) hx
        have e : A ++ (X1 ++ (X2 ++ (y :: B))) = (A ++ (X ++ (y :: B))) := by rw [HXX.out]; simp
        rw [e] at c3
        have := H1.out c (by have := HA.out; omega) (by have := HX1.out; have := HA.out; omega)
        omega
      have hk2 : Hid (∀ x ∈ X2, keyJ y ≤ keyJ x) := fun x hx => by
        obtain ⟨c, c1, c2, c3⟩ := kd_mem (key := keyJ) (A := A ++ X1) (X := X2) (B := y :: B) hx
        have e : (A ++ X1) ++ (X2 ++ (y :: B)) = (A ++ (X ++ (y :: B))) := by rw [HXX.out]; simp
        rw [e] at c3
        rw [List.length_append] at c1 c2
        have := HL.out
        have := H2.out c (by have := HA.out; have := HX1.out; omega) (by have := HM.out; omega)
        omega
      clear hk
      go_wp2_with fail
      go_loopg [17] (m - i) (fun k kv wr => ∃ (p : Nat) (P Q : List Jp), kv = .int .i64 p ∧ i ≤ p ∧ p ≤ m ∧ i + k = p ∧ Hid (X2 = P ++ Q) ∧ Hid (p = i + P.length) ∧ Hid (Arr encJ 2 80 w wr g cap (A ++ (X1 ++ (P ++ (y :: (Q ++ B)))))))
      case atStart => exact ⟨m, X2, [], rfl, hj, Nat.le_refl _, by omega, by unfold Hid; simp, by unfold Hid; have := HL.out; have := HM.out; have := HX1.out; have := HA.out; omega, by have := HR.out; rw [HXX.out] at this; unfold Hid; simpa using this⟩
      case round =>
        obtain ⟨p, P, Q, rfl, hip, hpm, hpk, HP, HPL, HR2⟩ := hrel
        by_cases hlt : i < p
        · obtain ⟨P', x, hP⟩ : ∃ P' x, P = P' ++ [x] := by
            rcases List.eq_nil_or_concat P with rfl | ⟨L, l, rfl⟩
            · have := HPL.out; simp only [List.length_nil] at this; omega
            · exact ⟨L, l, by simp⟩
          subst hP
          have hr := HR2.out
          have er : A ++ (X1 ++ ((P' ++ [x]) ++ (y :: (Q ++ B)))) = (A ++ (X1 ++ P')) ++ x :: ([] ++ y :: (Q ++ B)) := by simp
          rw [er] at hr
          have hA := HA.out
          have hPL := HPL.out
          have hX1 := HX1.out
          rw [List.length_append] at hPL
          simp only [List.length_cons, List.length_nil] at hPL
          obtain ⟨pp, hpp⟩ : ∃ pp, p = pp + 1 := ⟨p - 1, by omega⟩
          obtain ⟨x0, x1⟩ := ArrJ.cells hr (i := pp) (get_app' _ _ (by simp only [List.length_append]; omega))
          obtain ⟨y0, y1⟩ := ArrJ.cells hr (i := p) (x := y) (by
            have : (A ++ (X1 ++ P')) ++ x :: ([] ++ y :: (Q ++ B)) = ((A ++ (X1 ++ P')) ++ [x]) ++ y :: (Q ++ B) := by simp
            rw [this]
            exact get_app' _ _ (by simp only [List.length_append, List.length_cons, List.length_nil]; omega))
          have HS := Lib.hid (ArrJ.swapR (i := pp) (j := p) (Q := []) hr (by simp only [List.length_append]; omega) (by simp only [List.length_append, List.length_nil]; omega))
          have f0 := hr.frozen
          have e4 : (p : Int) - 1 = (pp : Int) := by omega
          have HPP := Lib.hid (show p = pp + 1 ∧ pp = i + P'.length from ⟨hpp, by omega⟩)
          have bpp : pp < N := by omega
          have bp : p < N := by omega
          clear hr er hA hPL hpp hX1
          go_wp2_with fail
          go_big_region
          go_wp2_with fail
          go_roundg (gk - 1)
          case measure => omega
          case rel => exact ⟨pp, P', x :: Q, rfl, by have := HPP.out; omega, by have := HPP.out; omega, by have := HPP.out; omega, by unfold Hid; rw [HP.out]; simp, HPP.out.2, by have := HS.out.drew; unfold Hid; simpa using this⟩
        · have hP : P = [] := List.eq_nil_of_length_eq_zero (by have := HPL.out; omega)
          subst hP
          go_wp2_with fail
          refine bodyPost_ret (results_none rfl _ _ _) rfl ?_
          have hs := hX
          rw [HXX.out] at hs
          obtain ⟨s1, s2, s3⟩ := srt_append.1 hs
          have hQ := HP.out
          rw [List.nil_append] at hQ
          subst hQ
          refine ⟨rfl, X1 ++ y :: X2, ?_, ?_, by have := HR2.out; simpa using this⟩
          · rw [HXX.out, List.append_assoc]
            exact List.Perm.append_left X1 (List.perm_append_singleton y X2).symm
          · refine srt_append.2 ⟨s1, ?_, fun u hu z hz => ?_⟩
            · unfold Srt; rw [List.pairwise_cons]; exact ⟨hk2.out, s2⟩
            · rcases List.mem_cons.1 hz with rfl | hz
              · exact hk1.out u hu
              · exact s3 u hu z hz
end Go.Proofs.YthkeigljiinlbaaGreat
