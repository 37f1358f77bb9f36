/- slices.SortStableFunc of jumps: exchange of ranges, turning. -/
import Derived.Test.YthkeigljiinlbaaGreatM15
namespace Go.Proofs.YthkeigljiinlbaaGreat
open Go.RowKit

theorem encJ_parts (x : Jp) : encJ x = [.int .i64 x.a, .int .i64 x.n] := rfl
theorem ArrJ.cells {w W : World} {g cap : Nat} {L : List Jp} (h : Arr encJ 2 80 w W g cap L) {i : Nat} {x : Jp} (hx : L[i]? = some x) : W.cell? ⟨g, i * 2, none⟩ = some (.int .i64 x.a) ∧ W.cell? ⟨g, i * 2 + 1, none⟩ = some (.int .i64 x.n) :=
  ⟨h.cell encJ_len hx (j := 0) rfl, h.cell encJ_len hx (j := 1) rfl⟩
/-- Two things change places. -/
theorem ArrJ.swap {w W : World} {g cap : Nat} {P Q R : List Jp} {x y : Jp} (h : Arr encJ 2 80 w W g cap (P ++ x :: (Q ++ y :: R))) {i j : Nat} (hi : i = P.length) (hj : j = P.length + 1 + Q.length) :
    Arr encJ 2 80 w ((((W.setCell ⟨g, i * 2, none⟩ (.int .i64 y.a)).setCell ⟨g, i * 2 + 1, none⟩ (.int .i64 y.n)).setCell ⟨g, j * 2, none⟩ (.int .i64 x.a)).setCell ⟨g, j * 2 + 1, none⟩ (.int .i64 x.n)) g cap (P ++ y :: (Q ++ x :: R)) := by
  subst hi hj
  have h1 := h.set2 encJ_len (encJ_parts y) (i := P.length) (by simp)
  have h2 := h1.set2 encJ_len (encJ_parts x) (i := P.length + 1 + Q.length) (by simp; omega)
  rw [swap_app] at h2
  exact h2

/-- The same, the other one first. -/
theorem ArrJ.swapR {w W : World} {g cap : Nat} {P Q R : List Jp} {x y : Jp} (h : Arr encJ 2 80 w W g cap (P ++ x :: (Q ++ y :: R))) {i j : Nat} (hi : i = P.length) (hj : j = P.length + 1 + Q.length) :
    Arr encJ 2 80 w ((((W.setCell ⟨g, j * 2, none⟩ (.int .i64 x.a)).setCell ⟨g, j * 2 + 1, none⟩ (.int .i64 x.n)).setCell ⟨g, i * 2, none⟩ (.int .i64 y.a)).setCell ⟨g, i * 2 + 1, none⟩ (.int .i64 y.n)) g cap (P ++ y :: (Q ++ x :: R)) := by
  subst hi hj
  have h1 := h.set2 encJ_len (encJ_parts x) (i := P.length + 1 + Q.length) (by simp; omega)
  have h2 := h1.set2 encJ_len (encJ_parts y) (i := P.length) (by simp)
  rw [swap_app2] at h2
  exact h2
theorem ArrJ.mid {w W : World} {g cap : Nat} {P Q R : List Jp} {x y : Jp} (h : Arr encJ 2 80 w W g cap (P ++ x :: (Q ++ y :: R))) {i j : Nat} (hi : i = P.length) (hj : j = P.length + 1 + Q.length) :
    ((W.setCell ⟨g, i * 2, none⟩ (.int .i64 y.a)).setCell ⟨g, i * 2 + 1, none⟩ (.int .i64 y.n)).cell? ⟨g, j * 2, none⟩ = some (.int .i64 y.a) ∧ ((W.setCell ⟨g, i * 2, none⟩ (.int .i64 y.a)).setCell ⟨g, i * 2 + 1, none⟩ (.int .i64 y.n)).cell? ⟨g, j * 2 + 1, none⟩ = some (.int .i64 y.n) := by
  subst hi hj
  have h1 := h.set2 encJ_len (encJ_parts y) (i := P.length) (by simp)
  refine ArrJ.cells h1 (x := y) ?_
  rw [set_app]
  have : P ++ y :: (Q ++ y :: R) = (P ++ y :: Q) ++ y :: R := by simp
  rw [this]
  exact get_app' _ _ (by simp only [List.length_append, List.length_cons]; omega)

set_option maxHeartbeats 1000000 in
set_option maxRecDepth 100000 in
theorem swapJ_any (g cap : Nat) (w : World) (A X C Y B : List Jp) (W : World) (f : Value) (n a b N : Nat) (hX : X.length = n) (hY : Y.length = n) (ha : a = A.length) (hb : b = A.length + n + C.length) (hN : N = (A ++ (X ++ (C ++ (Y ++ B)))).length) (hN2 : N ≤ 1048576) (h : Arr encJ 2 80 w W g cap (A ++ (X ++ (C ++ (Y ++ B))))) :
    Calls Tryz.prog 178 #[.slice (some ⟨g, 0, none⟩) N cap, .int .i64 a, .int .i64 b, .int .i64 n, f] W fun e w' => e = .returned (.tuple #[]) ∧ Arr encJ 2 80 w w' g cap (A ++ (Y ++ (C ++ (X ++ B)))) := by
  go_enter Tryz.func178, Tryz.ntmps178
  go_wp2_with fail
  go_loopg [10] n (fun k iv wr => ∃ (i : Nat) (X1 X2 Y1 Y2 : List Jp), i + k = n ∧ iv = .int .i64 i ∧ X = X1 ++ X2 ∧ Y = Y1 ++ Y2 ∧ X1.length = i ∧ Y1.length = i ∧ Arr encJ 2 80 w wr g cap (A ++ (Y1 ++ (X2 ++ (C ++ (X1 ++ (Y2 ++ B)))))))
  case atStart => exact ⟨0, [], X, [], Y, by omega, rfl, rfl, rfl, rfl, rfl, by simpa using h⟩
  case round =>
    obtain ⟨i, X1, X2, Y1, Y2, hk, rfl, hXX, hYY, h1, h2, hr⟩ := hrel
    by_cases hlt : i < n
    · obtain ⟨x, X2', rfl⟩ : ∃ x X', X2 = x :: X' := by
        cases X2 with
        | nil => rw [hXX, List.append_nil] at hX; omega
        | cons x X' => exact ⟨x, X', rfl⟩
      obtain ⟨y, Y2', rfl⟩ : ∃ y Y', Y2 = y :: Y' := by
        cases Y2 with
        | nil => rw [hYY, List.append_nil] at hY; omega
        | cons y Y' => exact ⟨y, Y', rfl⟩
      have lX : X1.length + (X2'.length + 1) = n := by rw [← hX, hXX]; simp
      have lY : Y1.length + (Y2'.length + 1) = n := by rw [← hY, hYY]; simp
      have er : A ++ (Y1 ++ (x :: X2' ++ (C ++ (X1 ++ (y :: Y2' ++ B))))) = (A ++ Y1) ++ x :: ((X2' ++ (C ++ X1)) ++ y :: (Y2' ++ B)) := by simp
      rw [er] at hr
      have lN : a + n + (b + n) ≤ 2 * N := by rw [hN, ha, hb]; simp only [List.length_append]; omega
      have hs := ArrJ.swap (i := a + i) (j := b + i) hr (by rw [List.length_append]; omega) (by simp only [List.length_append]; omega)
      obtain ⟨x0, x1⟩ := ArrJ.cells hr (i := a + i) (get_app' _ _ (by rw [List.length_append]; omega))
      obtain ⟨y0, y1⟩ := ArrJ.cells hr (i := b + i) (x := y) (by
        have : (A ++ Y1) ++ x :: ((X2' ++ (C ++ X1)) ++ y :: (Y2' ++ B)) = ((A ++ Y1) ++ x :: (X2' ++ (C ++ X1))) ++ y :: (Y2' ++ B) := by simp
        rw [this]
        exact get_app' _ _ (by simp only [List.length_append, List.length_cons]; omega))
      obtain ⟨u0, u1⟩ := ArrJ.mid (i := a + i) (j := b + i) hr (by rw [List.length_append]; omega) (by simp only [List.length_append]; omega)
      have f0 := hr.frozen
      have HS := Lib.hid hs
      have b1 : a + i < N := by rw [hN, ha]; simp only [List.length_append]; omega
      have b2 : b + i < N := by rw [hN, hb]; simp only [List.length_append]; omega
      have HR : Hid (X = (X1 ++ [x]) ++ X2' ∧ Y = (Y1 ++ [y]) ++ Y2' ∧ (X1 ++ [x]).length = i + 1 ∧ (Y1 ++ [y]).length = i + 1) := ⟨by rw [hXX]; simp, by rw [hYY]; simp, by rw [List.length_append, h1]; rfl, by rw [List.length_append, h2]; rfl⟩
      clear hs hXX hYY er lX lY hN ha hb h hX hY h1 h2
      go_wp2_with fail
      go_big_region
      go_wp2_with fail
      go_roundg (gk - 1)
      case measure => omega
      case rel =>
        obtain ⟨r1, r2, r3, r4⟩ := HR.out
        exact ⟨i + 1, _, X2', _, Y2', by omega, int_eq (by omega), r1, r2, r3, r4, by have := HS.out.drew; simpa using this⟩
    · have e : i = n := by omega
      subst e
      have e1 : X2 = [] := by
        have := congrArg List.length hXX
        rw [List.length_append] at this
        exact List.eq_nil_of_length_eq_zero (by omega)
      have e2 : Y2 = [] := by
        have := congrArg List.length hYY
        rw [List.length_append] at this
        exact List.eq_nil_of_length_eq_zero (by omega)
      subst e1 e2
      rw [List.append_nil] at hXX hYY
      subst hXX hYY
      rw [List.nil_append, List.nil_append] at hr
      have HR := Lib.hid hr
      clear hr h ha hb hN hX hY h1 h2
      go_wp2_with fail
      go_end0
      exact ⟨rfl, HR.out⟩
end Go.Proofs.YthkeigljiinlbaaGreat

/- Merging in place, in plain lists: where the two halves are parted. -/
namespace Go.Proofs.YthkeigljiinlbaaGreat

section
variable {α : Type} {key : α → Int}
theorem kd_mem {A X B : List α} {x : α} (h : x ∈ X) : ∃ i, A.length ≤ i ∧ i < A.length + X.length ∧ kd key (A ++ (X ++ B)) i = key x := by
  obtain ⟨k, hk, e⟩ := List.getElem_of_mem h
  refine ⟨A.length + k, by omega, by omega, kd_of ?_⟩
  rw [List.getElem?_append_right (by omega), Nat.add_sub_cancel_left, List.getElem?_append_left hk, List.getElem?_eq_getElem hk, e]
/-- A list parted at a place. -/
theorem part_at {X : List α} {k : Nat} (h : k ≤ X.length) : ∃ X1 X2, X = X1 ++ X2 ∧ X1.length = k := ⟨X.take k, X.drop k, (List.take_append_drop k X).symm, by rw [List.length_take]; omega⟩
theorem sym_cross {A X1 X2 Y1 Y2 B : List α} {n s s0 r0 : Nat} (hX : Srt key (X1 ++ X2)) (hY : Srt key (Y1 ++ Y2)) (hs : s = A.length + X1.length) (he : n - s = A.length + X1.length + X2.length + Y1.length) (hn : s < n)
    (h0 : 0 < X1.length → 0 < Y2.length → s0 < s) (hr : 0 < Y1.length → 0 < X2.length → s < r0)
    (h1 : ∀ c, s0 ≤ c → c < s → kd key (A ++ (X1 ++ (X2 ++ (Y1 ++ (Y2 ++ B))))) c ≤ kd key (A ++ (X1 ++ (X2 ++ (Y1 ++ (Y2 ++ B))))) (n - 1 - c))
    (h2 : ∀ c, s ≤ c → c < r0 → kd key (A ++ (X1 ++ (X2 ++ (Y1 ++ (Y2 ++ B))))) (n - 1 - c) < kd key (A ++ (X1 ++ (X2 ++ (Y1 ++ (Y2 ++ B))))) c) :
    (∀ x ∈ X1, ∀ y ∈ Y2, key x ≤ key y) ∧ (∀ y ∈ Y1, ∀ x ∈ X2, key y ≤ key x) := by
  have ex : A ++ (X1 ++ (X2 ++ (Y1 ++ (Y2 ++ B)))) = A ++ ((X1 ++ X2) ++ (Y1 ++ (Y2 ++ B))) := by simp
  have ey : A ++ (X1 ++ (X2 ++ (Y1 ++ (Y2 ++ B)))) = (A ++ (X1 ++ X2)) ++ ((Y1 ++ Y2) ++ B) := by simp
  have sx : ∀ i j, A.length ≤ i → i ≤ j → j < A.length + X1.length + X2.length → kd key (A ++ (X1 ++ (X2 ++ (Y1 ++ (Y2 ++ B))))) i ≤ kd key (A ++ (X1 ++ (X2 ++ (Y1 ++ (Y2 ++ B))))) j := fun i j q1 q2 q3 => by
    rw [ex]; exact hX.kd q1 q2 (by rw [List.length_append]; omega)
  have sy : ∀ i j, A.length + X1.length + X2.length ≤ i → i ≤ j → j < A.length + X1.length + X2.length + Y1.length + Y2.length → kd key (A ++ (X1 ++ (X2 ++ (Y1 ++ (Y2 ++ B))))) i ≤ kd key (A ++ (X1 ++ (X2 ++ (Y1 ++ (Y2 ++ B))))) j := fun i j q1 q2 q3 => by
    rw [ey]; exact hY.kd (by simp only [List.length_append]; omega) q2 (by simp only [List.length_append]; omega)
  have l1 : ∀ {x}, x ∈ X1 → 0 < X1.length := fun h => List.length_pos_of_mem h
  constructor
  · intro x hx y hy
    have p1 : 0 < X1.length := List.length_pos_of_mem hx
    have p2 : 0 < Y2.length := List.length_pos_of_mem hy
    obtain ⟨i, i1, i2, i3⟩ := kd_mem (key := key) (A := A) (X := X1) (B := X2 ++ (Y1 ++ (Y2 ++ B))) hx
    obtain ⟨j, j1, j2, j3⟩ := kd_mem (key := key) (A := A ++ (X1 ++ (X2 ++ Y1))) (X := Y2) (B := B) hy
    have e2 : (A ++ (X1 ++ (X2 ++ Y1))) ++ (Y2 ++ B) = A ++ (X1 ++ (X2 ++ (Y1 ++ (Y2 ++ B)))) := by simp
    rw [e2] at j3
    simp only [List.length_append] at j1 j2
    have hss := h0 p1 p2
    have q := h1 (s - 1) (by omega) (by omega)
    rw [show n - 1 - (s - 1) = n - s by omega] at q
    have q1 := sx i (s - 1) i1 (by omega) (by omega)
    have q2 := sy (n - s) j (by omega) (by omega) (by omega)
    rw [← i3, ← j3]
    omega
  · intro y hy x hx
    have p1 : 0 < Y1.length := List.length_pos_of_mem hy
    have p2 : 0 < X2.length := List.length_pos_of_mem hx
    obtain ⟨i, i1, i2, i3⟩ := kd_mem (key := key) (A := A ++ X1) (X := X2) (B := Y1 ++ (Y2 ++ B)) hx
    obtain ⟨j, j1, j2, j3⟩ := kd_mem (key := key) (A := A ++ (X1 ++ X2)) (X := Y1) (B := Y2 ++ B) hy
    have e1 : (A ++ X1) ++ (X2 ++ (Y1 ++ (Y2 ++ B))) = A ++ (X1 ++ (X2 ++ (Y1 ++ (Y2 ++ B)))) := by simp
    have e2 : (A ++ (X1 ++ X2)) ++ (Y1 ++ (Y2 ++ B)) = A ++ (X1 ++ (X2 ++ (Y1 ++ (Y2 ++ B)))) := by simp
    rw [e1] at i3
    rw [e2] at j3
    simp only [List.length_append] at i1 i2 j1 j2
    have hss := hr p1 p2
    have q := h2 s (Nat.le_refl _) hss
    rw [show n - 1 - s = n - s - 1 by omega] at q
    have q1 := sx s i (by omega) (by omega) (by omega)
    have q2 := sy j (n - s - 1) (by omega) (by omega) (by omega)
    rw [← i3, ← j3]
    omega
/-- What the two halves make. -/
theorem sym_done {X1 X2 Y1 Y2 Z1 Z2 : List α} (hX : Srt key (X1 ++ X2)) (hY : Srt key (Y1 ++ Y2)) (c1 : ∀ x ∈ X1, ∀ y ∈ Y2, key x ≤ key y) (c2 : ∀ y ∈ Y1, ∀ x ∈ X2, key y ≤ key x)
    (p1 : Z1.Perm (X1 ++ Y1)) (p2 : Z2.Perm (X2 ++ Y2)) (s1 : Srt key Z1) (s2 : Srt key Z2) : Srt key (Z1 ++ Z2) ∧ (Z1 ++ Z2).Perm ((X1 ++ X2) ++ (Y1 ++ Y2)) := by
  constructor
  · refine Srt.perm_le p1 p2 s1 s2 ?_
    have a1 := (srt_append.1 hX).2.2
    have a2 := (srt_append.1 hY).2.2
    intro x hx y hy
    rcases List.mem_append.1 hx with hx | hx <;> rcases List.mem_append.1 hy with hy | hy
    · exact a1 x hx y hy
    · exact c1 x hx y hy
    · exact c2 x hx y hy
    · exact a2 x hx y hy
  · refine (p1.append p2).trans ?_
    have : (X1 ++ Y1 ++ (X2 ++ Y2)).Perm (X1 ++ X2 ++ (Y1 ++ Y2)) := by
      simp only [List.append_assoc]
      refine List.Perm.append_left X1 ?_
      rw [← List.append_assoc, ← List.append_assoc]
      exact List.Perm.append_right Y2 List.perm_append_comm
    exact this
end
end Go.Proofs.YthkeigljiinlbaaGreat

/- slices.SortStableFunc of jumps: turning. -/
namespace Go.Proofs.YthkeigljiinlbaaGreat
open Go.RowKit

set_option maxHeartbeats 1000000 in
set_option maxRecDepth 100000 in
theorem rotJ_any (g cap : Nat) (w : World) (A X Y B : List Jp) (W : World) (f : Value) (a m b N : Nat) (ha : a = A.length) (hm : m = A.length + X.length) (hb : b = A.length + X.length + Y.length) (hX : 0 < X.length) (hY : 0 < Y.length) (hN : N = (A ++ (X ++ (Y ++ B))).length) (hN2 : N ≤ 1048576) (h : Arr encJ 2 80 w W g cap (A ++ (X ++ (Y ++ B)))) :
    Calls Tryz.prog 173 #[.slice (some ⟨g, 0, none⟩) N cap, .int .i64 a, .int .i64 m, .int .i64 b, f] W fun e w' => e = .returned (.tuple #[]) ∧ Arr encJ 2 80 w w' g cap (A ++ (Y ++ (X ++ B))) := by
  have HN := Lib.hid (show N = A.length + X.length + Y.length + B.length by rw [hN]; simp only [List.length_append]; omega)
  obtain ⟨i0, hi0⟩ : ∃ i0, X.length = i0 := ⟨_, rfl⟩
  obtain ⟨j0, hj0⟩ : ∃ j0, Y.length = j0 := ⟨_, rfl⟩
  have e1 : (m : Int) - (a : Int) = (i0 : Int) := by omega
  have e2 : (b : Int) - (m : Int) = (j0 : Int) := by omega
  have hM := Lib.hid hm
  have HI0 := Lib.hid hi0
  have HJ0 := Lib.hid hj0
  have bm : m ≤ 1048576 ∧ i0 ≤ 1048576 ∧ j0 ≤ 1048576 ∧ a ≤ m ∧ m ≤ b ∧ b ≤ 1048576 := by have := HN.out; omega
  obtain ⟨bm1, bm2, bm3, bm4, bm5, bm6⟩ := bm
  clear ha hm hb hN hi0 hj0
  go_enter Tryz.func173, Tryz.ntmps173
  go_wp2_with fail
  clear e1 e2
  go_loopg [10, 11] (i0 + j0) (fun k iv jv wr => ∃ (i j mi : Nat) (P U V Q : List Jp), iv = .int .i64 i ∧ jv = .int .i64 j ∧ Hid (i = U.length ∧ j = V.length ∧ mi = A.length + P.length ∧ m = mi + i) ∧ 0 < i ∧ 0 < j ∧ i + j ≤ k ∧ Hid (P ++ (V ++ (U ++ Q)) = Y ++ X) ∧ Hid (Arr encJ 2 80 w wr g cap (A ++ (P ++ (U ++ (V ++ (Q ++ B)))))))
  case atStart => exact ⟨i0, j0, A.length, [], X, Y, [], rfl, rfl, ⟨HI0.out.symm, HJ0.out.symm, rfl, by have := hM.out; have := HI0.out; omega⟩, by have := HI0.out; omega, by have := HJ0.out; omega, Nat.le_refl _, by unfold Hid; simp, by unfold Hid; simpa using h⟩
  case round =>
    obtain ⟨i, j, mi, P, U, V, Q, rfl, rfl, HL, hp1, hp2, hk, HT, HR⟩ := hrel
    have e3 : (m : Int) - (i : Int) = (mi : Int) := by have := HL.out; omega
    obtain ⟨bi, bj⟩ : i ≤ 1048576 ∧ j ≤ 1048576 := by
      have h1 := congrArg List.length HT.out
      simp only [List.length_append] at h1
      obtain ⟨q1, q2, _, _⟩ := HL.out
      have := HN.out
      omega
    have HTL : Hid (P.length + (V.length + (U.length + Q.length)) = Y.length + X.length) := by
      have h1 := congrArg List.length HT.out
      simp only [List.length_append] at h1
      exact h1
    rcases Nat.lt_trichotomy i j with hij | hij | hij
    · obtain ⟨mj, HM⟩ : ∃ mj, Hid (mj = m + j - i) := ⟨_, rfl⟩
      obtain ⟨V1, V2, hV, hV1⟩ := part_at (X := V) (k := j - i) (by have := HL.out; omega)
      have hVl := congrArg List.length hV
      rw [List.length_append] at hVl
      have hr := HR.out
      rw [hV] at hr
      have hc := swapJ_any g cap w (A ++ P) U V1 V2 (Q ++ B) wr f i mi mj N (by have := HL.out; omega) (by have := HL.out; omega) (by rw [List.length_append]; have := HL.out; omega) (by rw [List.length_append]; have := HL.out; have := HM.out; omega) (by have := HN.out; have := HTL.out; simp only [List.length_append]; omega) hN2 (by simpa using hr)
      have e4 : (m : Int) + (j : Int) - (i : Int) = (mj : Int) := by have := HM.out; have := HL.out; omega
      have b1 : ((i : Int) != (j : Int)) = true := by simp; omega
      have b2 : decide ((j : Int) < (i : Int)) = false := by simp; omega
      have HV := Lib.hid hV
      have HV1 := Lib.hid hV1
      have HVl := Lib.hid hVl
      obtain ⟨ji, hji⟩ : ∃ ji, j - i = ji := ⟨_, rfl⟩
      have e5 : (j : Int) - (i : Int) = (ji : Int) := by omega
      have HJI := Lib.hid hji
      clear hr hV hV1 hVl hji
      go_wp2_with fail
      refine hc.mono ?_
      rintro e w1 ⟨rfl, hr1⟩
      have HR1 := Lib.hid hr1
      clear hr1
      go_wp2_with fail
      go_roundg (ji + i)
      case measure => have := HJI.out; omega
      case rel => exact ⟨i, ji, mi, P, V2, V1, U ++ Q, rfl, rfl, by unfold Hid; have := HL.out; have := HV1.out; have := HVl.out; have := HJI.out; omega, hp1, by have := HJI.out; omega, by omega, by unfold Hid; rw [← HT.out, HV.out]; simp, by unfold Hid; have := HR1.out; simpa using this⟩
    · have hc := swapJ_any g cap w (A ++ P) U [] V (Q ++ B) wr f i mi m N (by have := HL.out; omega) (by have := HL.out; omega) (by rw [List.length_append]; have := HL.out; omega) (by rw [List.length_append]; have := HL.out; simp only [List.length_nil]; omega) (by have := HN.out; have := HTL.out; simp only [List.length_append, List.length_nil]; omega) hN2 (by have := HR.out; simpa using this)
      have b1 : ((i : Int) != (j : Int)) = false := by simp; omega
      have HIJ := Lib.hid hij
      clear hij
      go_wp2_with fail
      refine hc.mono ?_
      rintro e w1 ⟨rfl, hr1⟩
      have HR1 := Lib.hid hr1
      clear hr1
      go_wp2_with fail
      go_end0
      refine ⟨rfl, ?_⟩
      have q := HR1.out
      have e : A ++ P ++ (V ++ ([] ++ (U ++ (Q ++ B)))) = A ++ ((P ++ (V ++ (U ++ Q))) ++ B) := by simp
      rw [e, HT.out] at q
      simpa using q
    · obtain ⟨U1, U2, hU, hU1⟩ := part_at (X := U) (k := j) (by have := HL.out; omega)
      have hUl := congrArg List.length hU
      rw [List.length_append] at hUl
      have hr := HR.out
      rw [hU] at hr
      have hc := swapJ_any g cap w (A ++ P) U1 U2 V (Q ++ B) wr f j mi m N hU1 (by have := HL.out; omega) (by rw [List.length_append]; have := HL.out; omega) (by rw [List.length_append]; have := HL.out; omega) (by have := HN.out; have := HTL.out; simp only [List.length_append]; omega) hN2 (by simpa using hr)
      have b1 : ((i : Int) != (j : Int)) = true := by simp; omega
      have b2 : decide ((j : Int) < (i : Int)) = true := by simp; omega
      have HU := Lib.hid hU
      have HU1 := Lib.hid hU1
      have HUl := Lib.hid hUl
      obtain ⟨ij, hij2⟩ : ∃ ij, i - j = ij := ⟨_, rfl⟩
      have e5 : (i : Int) - (j : Int) = (ij : Int) := by omega
      have HIJ := Lib.hid hij2
      clear hr hU hU1 hUl hij2
      go_wp2_with fail
      refine hc.mono ?_
      rintro e w1 ⟨rfl, hr1⟩
      have HR1 := Lib.hid hr1
      clear hr1
      go_wp2_with fail
      go_roundg (ij + j)
      case measure => have := HIJ.out; omega
      case rel => exact ⟨ij, j, m - ij, P ++ V, U2, U1, Q, rfl, rfl, by unfold Hid; rw [List.length_append]; have := HL.out; have := HU1.out; have := HUl.out; have := HIJ.out; omega, by have := HIJ.out; omega, hp2, by omega, by unfold Hid; rw [← HT.out, HU.out]; simp, by unfold Hid; have := HR1.out; simpa using this⟩
end Go.Proofs.YthkeigljiinlbaaGreat
