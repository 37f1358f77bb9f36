/- Edges of rows of one number: how they are put in order. -/
import Derived.Test.YthkeigljiinlbaaGreatM20
import Derived.Deep.RegionHeld3
namespace Go.Proofs.YthkeigljiinlbaaGreat
open Go.RowKit

/-- An edge of a row of one number that can be read wherever nothing but block g has changed since w. -/
def OkE (w : World) (g : Nat) (p : PE) : Prop :=
  (∃ n : Int, p.2.r = [⟨1, n, []⟩]) ∧ (-1 ≤ p.2.a ∧ p.2.a ≤ 1125899906842624) ∧ Src encW 3 w (fun j => j = g) p.1.1 p.2.r ∧ 1 ≤ p.1.2 ∧ p.1.2 ≤ maxLen
def PX (w : World) (g : Nat) := {p : PE // OkE w g p}
def encX {w : World} {g : Nat} (p : PX w g) : List Value := [.slice p.1.1.1 p.1.2.r.length p.1.1.2, .int .i64 p.1.2.a, .int .i64 p.1.2.n]
theorem encX_len {w : World} {g : Nat} (p : PX w g) : (encX p).length = 3 := rfl
def keyE {w : World} {g : Nat} (p : PX w g) : Int := (p.1.2.r.headD ⟨0, 0, []⟩).n * 4503599627370496 + p.1.2.a
def cmpIE {w : World} {g : Nat} (x y : PX w g) : Int := if cmpR x.1.2.r y.1.2.r = 0 then Lib.compareInt x.1.2.a y.1.2.a else cmpR x.1.2.r y.1.2.r
theorem cmpR_one (n m : Int) : cmpR [⟨1, n, []⟩] [⟨1, m, []⟩] = Lib.compareInt n m := by
  have h1 : rowB [⟨1, n, []⟩] = true := by simp [rowB, valB]
  have h2 : rowB [⟨1, m, []⟩] = true := by simp [rowB, valB]
  unfold cmpR
  rw [if_pos ⟨h1, h2⟩, cmpL]
  by_cases h : n = m
  · subst h
    rw [if_pos rfl]
    simp [cmpL, Lib.compareInt]
  · rw [if_neg (by simpa using h)]
    simp [cmpV, valB]
theorem cmpE_neg {w : World} {g : Nat} (x y : PX w g) : (cmpIE x y < 0) ↔ keyE x < keyE y := by
  obtain ⟨p, ⟨n, hn⟩, ⟨ha, hb⟩, _⟩ := x
  obtain ⟨q, ⟨m, hm⟩, ⟨hc, hd⟩, _⟩ := y
  unfold cmpIE keyE
  simp only [hn, hm, cmpR_one, List.headD_cons]
  unfold Lib.compareInt
  by_cases h1 : n < m
  · simp only [if_pos h1]
    rw [if_neg (by omega)]
    omega
  · rw [if_neg h1]
    by_cases h2 : n > m
    · rw [if_pos h2, if_neg (by omega)]
      omega
    · rw [if_neg h2, if_pos rfl]
      split
      · omega
      · split <;> omega

set_option maxRecDepth 100000 in
theorem cmpOr_any (x y : Int) (b : Nat) (c : Nat) (w : World) (h0 : w.cell? ⟨b, 0, none⟩ = some (.int .i64 x)) (h1 : w.cell? ⟨b, 1, none⟩ = some (.int .i64 y)) :
    Calls Tryz.prog 48 #[.slice (some ⟨b, 0, none⟩) 2 c] w fun e w' => e = .returned (.int .i64 (if x = 0 then y else x)) ∧ w' = w := by
  obtain ⟨R, hR⟩ : ∃ R, (if x = 0 then y else x) = R := ⟨_, rfl⟩
  rw [hR]
  have HR := Lib.hid hR
  clear hR
  have ret : ∀ z, z = R → Ending.returned (.int .i64 z) = Ending.returned (.int .i64 R) := fun z h => by rw [h]
  go_enter Tryz.func48, Tryz.ntmps48
  go_wp2_with fail
  go_loopg [8] 2 (fun k iv wr => ∃ (i : Nat), iv = .int .i64 i ∧ i + k = 2 ∧ Hid (1 ≤ i → x = 0) ∧ Hid (2 ≤ i → y = 0) ∧ w = wr)
  case atStart => exact ⟨0, rfl, rfl, fun q => by omega, fun q => by omega, rfl⟩
  case round =>
    obtain ⟨i, rfl, hk, H1, H2, rfl⟩ := hrel
    rcases (show i = 0 ∨ i = 1 ∨ i = 2 by omega) with rfl | rfl | rfl
    · by_cases hx : x = 0
      · have hx' : (x != 0) = false := by simpa using hx
        have HX := Lib.hid hx
        clear hx
        go_wp2_with fail
        go_roundg 1
        case measure => omega
        case rel => exact ⟨1, rfl, rfl, fun _ => HX.out, (fun q => by omega), rfl⟩
      · have hx' : (x != 0) = true := by simpa using hx
        have HX := Lib.hid hx
        clear hx
        go_wp2_with fail
        go_ret
        exact ⟨ret _ (by rw [← HR.out, if_neg HX.out]), rfl⟩
    · by_cases hy : y = 0
      · have hy' : (y != 0) = false := by simpa using hy
        have HY := Lib.hid hy
        clear hy
        go_wp2_with fail
        go_roundg 0
        case measure => omega
        case rel => exact ⟨2, rfl, rfl, (fun _ => H1.out (by omega)), fun _ => HY.out, rfl⟩
      · have hy' : (y != 0) = true := by simpa using hy
        clear hy
        go_wp2_with fail
        go_ret
        exact ⟨ret _ (by rw [← HR.out, if_pos (H1.out (by omega))]), rfl⟩
    · go_wp2_with fail
      go_ret
      exact ⟨ret _ (by rw [← HR.out, if_pos (H1.out (by omega)), H2.out (by omega)]), rfl⟩

set_option maxHeartbeats 1000000 in
set_option maxRecDepth 100000 in
theorem cmpE_any {w : World} {g : Nat} (x y : PX w g) (W : World) (hk : Kept (fun j => j = g) w W) :
    Calls Tryz.prog 47 #[.agg #[.slice x.1.1.1 x.1.2.r.length x.1.1.2, .int .i64 x.1.2.a, .int .i64 x.1.2.n], .agg #[.slice y.1.1.1 y.1.2.r.length y.1.1.2, .int .i64 y.1.2.a, .int .i64 y.1.2.n]] W fun e w' => e = .returned (.int .i64 (cmpIE x y)) ∧ Kept (fun _ => False) W w' := by
  obtain ⟨⟨⟨A, c⟩, ⟨r, xa, xn⟩⟩, ⟨n, hn⟩, _, hsx, hc1, hc2⟩ := x
  obtain ⟨⟨⟨B, d⟩, ⟨q, ya, yn⟩⟩, ⟨m, hm⟩, _, hsy, hd1, hd2⟩ := y
  simp only at hn hm hsx hsy hc1 hc2 hd1 hd2 ⊢
  have hx := (hsx.kept hk (fun _ q => q) (fun _ q => q.elim) : Src encW 3 W (fun _ => False) A r)
  have hy := (hsy.kept hk (fun _ q => q) (fun _ q => q.elim) : Src encW 3 W (fun _ => False) B q)
  have hlr : r.length = 1 := by rw [hn]; rfl
  have hlq : q.length = 1 := by rw [hm]; rfl
  have hrc := fun wx hx hy => rcmp_any r q A B c d wx hx hy (by unfold maxLen; omega) (by unfold maxLen; omega) (by omega) hc2
  have hcc := fun wx => Tryz.cmp_Compare_int xa ya wx
  unfold cmpIE
  simp only
  clear hsx hsy hn hm
  generalize hRC : cmpR r q = rc at *
  generalize hCC : Lib.compareInt xa ya = cc at *
  clear hRC hCC
  have hor := fun b c wx h0 h1 => cmpOr_any rc cc b c wx h0 h1
  obtain ⟨RV, hRV⟩ : ∃ RV, (if rc = 0 then cc else rc) = RV := ⟨_, rfl⟩
  rw [hRV]
  simp only [hRV] at hor
  clear hRV
  rw [hlr, hlq] at hrc
  rw [hlr, hlq]
  clear hlr hlq
  have k0 : Kept (fun _ => False) W ((W.alloc (.cells #[.slice A 1 c, .int .i64 xa, .int .i64 xn] 50)).alloc (.cells #[.slice B 1 d, .int .i64 ya, .int .i64 yn] 50)) := ((Kept.refl _ W).alloc _).alloc _
  have a0 := Kept.heap ((Kept.refl (fun _ => False) _).alloc (.cells #[.slice B 1 d, .int .i64 ya, .int .i64 yn] 50)) (heap_alloc_new W (.cells #[.slice A 1 c, .int .i64 xa, .int .i64 xn] 50)) (fun q => q)
  have a1 := heap_alloc_new (W.alloc (.cells #[.slice A 1 c, .int .i64 xa, .int .i64 xn] 50)) (.cells #[.slice B 1 d, .int .i64 ya, .int .i64 yn] 50)
  simp only [World.size_alloc] at a1
  have x0 := cell_of_row _ _ 0 _ _ _ a0
  have x1 := cell_of_row _ _ 1 _ _ _ a0
  have y0 := cell_of_row _ _ 0 _ _ _ a1
  have y1 := cell_of_row _ _ 1 _ _ _ a1
  simp only [List.getElem?_toArray, List.getElem?_cons_zero, List.getElem?_cons_succ] at x0 x1 y0 y1
  have hx0 := hx.same k0
  have hy0 := hy.same k0
  go_enter Tryz.func47, Tryz.ntmps47
  go_wp2_with fail
  generalize hW1 : (W.alloc (.cells #[.slice A 1 c, .int .i64 xa, .int .i64 xn] 50)).alloc (.cells #[.slice B 1 d, .int .i64 ya, .int .i64 yn] 50) = W1 at *
  clear hW1 a0 a1
  generalize W.heap.size = bx at *
  have hrc1 := hrc _ (hx0.same (drew_kept W1 1)) (hy0.same (drew_kept W1 1))
  clear hrc
  have hc2 : ∀ V : World, (V.alloc (.cells #[.int .i64 rc, .int .i64 cc] 3)).cell? ⟨V.heap.size, 0, none⟩ = some (.int .i64 rc) ∧ (V.alloc (.cells #[.int .i64 rc, .int .i64 cc] 3)).cell? ⟨V.heap.size, 1, none⟩ = some (.int .i64 cc) := fun V =>
    ⟨by simp, by simp⟩
  go_region_held3 (fun V => V.cell? ⟨bx, 0, none⟩ = some (.slice A 1 c) ∧ V.cell? ⟨bx, 1, none⟩ = some (.int .i64 xa) ∧ V.cell? ⟨bx + 1, 0, none⟩ = some (.slice B 1 d) ∧ V.cell? ⟨bx + 1, 1, none⟩ = some (.int .i64 ya) ∧ Kept (fun _ => False) W1 V)
    (first
      | exact ⟨x0, x1, y0, y1, (Kept.refl _ W1).drew⟩
      | exact ⟨k2.cell (w := W1.drew) x0 (fun q => q), k2.cell (w := W1.drew) x1 (fun q => q), k2.cell (w := W1.drew) y0 (fun q => q), k2.cell (w := W1.drew) y1 (fun q => q), (Kept.refl _ W1).drew.trans k2⟩
      | exact ⟨(k2.alloc _).cell (w := W1.drew) x0 (fun q => q), (k2.alloc _).cell (w := W1.drew) x1 (fun q => q), (k2.alloc _).cell (w := W1.drew) y0 (fun q => q), (k2.alloc _).cell (w := W1.drew) y1 (fun q => q), (Kept.refl _ W1).drew.trans (k2.alloc _)⟩)
    (first
      | (go_at_call 40; refine hrc1.mono ?_; rintro e w2 ⟨rfl, k2⟩)
      | (go_at_call 49; refine (hcc _).mono ?_; rintro e w3 ⟨rfl, rfl⟩)
      | (go_at_call 48; refine (hor _ _ _ (hc2 _).1 (hc2 _).2).mono ?_; rintro e w4 ⟨rfl, rfl⟩))
  go_wp2_with fail
  go_ret
  exact ⟨rfl, k0.trans ((Kept.refl (fun _ => False) W1).drew.trans (k2.alloc _))⟩
end Go.Proofs.YthkeigljiinlbaaGreat

/- slices.SortStableFunc of edges: exchange of ranges, turning. -/
namespace Go.Proofs.YthkeigljiinlbaaGreat
open Go.RowKit

theorem ArrE.cells {w W : World} {g cap : Nat} {L : List (PX w g)} (h : Arr encX 3 50 w W g cap L) {i : Nat} {x : PX w g} (hx : L[i]? = some x) : W.cell? ⟨g, i * 3, none⟩ = some (.slice x.1.1.1 x.1.2.r.length x.1.1.2) ∧ W.cell? ⟨g, i * 3 + 1, none⟩ = some (.int .i64 x.1.2.a) ∧ W.cell? ⟨g, i * 3 + 2, none⟩ = some (.int .i64 x.1.2.n) :=
  ⟨h.cell encX_len hx (j := 0) rfl, h.cell encX_len hx (j := 1) rfl, h.cell encX_len hx (j := 2) rfl⟩
theorem encX_parts {w : World} {g : Nat} (x : PX w g) : encX x = [.slice x.1.1.1 x.1.2.r.length x.1.1.2, .int .i64 x.1.2.a, .int .i64 x.1.2.n] := rfl
theorem ArrE.swap {w W : World} {g cap : Nat} {P Q R : List (PX w g)} {x y : PX w g} (h : Arr encX 3 50 w W g cap (P ++ x :: (Q ++ y :: R))) {i j : Nat} (hi : i = P.length) (hj : j = P.length + 1 + Q.length) :
    Arr encX 3 50 w ((((((W.setCell ⟨g, i * 3, none⟩ (.slice y.1.1.1 y.1.2.r.length y.1.1.2)).setCell ⟨g, i * 3 + 1, none⟩ (.int .i64 y.1.2.a)).setCell ⟨g, i * 3 + 2, none⟩ (.int .i64 y.1.2.n)).setCell ⟨g, j * 3, none⟩ (.slice x.1.1.1 x.1.2.r.length x.1.1.2)).setCell ⟨g, j * 3 + 1, none⟩ (.int .i64 x.1.2.a)).setCell ⟨g, j * 3 + 2, none⟩ (.int .i64 x.1.2.n)) g cap (P ++ y :: (Q ++ x :: R)) := by
  subst hi hj
  have h1 := h.set3 encX_len (encX_parts y) (i := P.length) (by simp)
  have h2 := h1.set3 encX_len (encX_parts x) (i := P.length + 1 + Q.length) (by simp; omega)
  rw [swap_app] at h2
  exact h2
theorem ArrE.swapR {w W : World} {g cap : Nat} {P Q R : List (PX w g)} {x y : PX w g} (h : Arr encX 3 50 w W g cap (P ++ x :: (Q ++ y :: R))) {i j : Nat} (hi : i = P.length) (hj : j = P.length + 1 + Q.length) :
    Arr encX 3 50 w ((((((W.setCell ⟨g, j * 3, none⟩ (.slice x.1.1.1 x.1.2.r.length x.1.1.2)).setCell ⟨g, j * 3 + 1, none⟩ (.int .i64 x.1.2.a)).setCell ⟨g, j * 3 + 2, none⟩ (.int .i64 x.1.2.n)).setCell ⟨g, i * 3, none⟩ (.slice y.1.1.1 y.1.2.r.length y.1.1.2)).setCell ⟨g, i * 3 + 1, none⟩ (.int .i64 y.1.2.a)).setCell ⟨g, i * 3 + 2, none⟩ (.int .i64 y.1.2.n)) g cap (P ++ y :: (Q ++ x :: R)) := by
  subst hi hj
  have h1 := h.set3 encX_len (encX_parts x) (i := P.length + 1 + Q.length) (by simp; omega)
  have h2 := h1.set3 encX_len (encX_parts y) (i := P.length) (by simp)
  rw [swap_app2] at h2
  exact h2
theorem ArrE.mid {w W : World} {g cap : Nat} {P Q R : List (PX w g)} {x y : PX w g} (h : Arr encX 3 50 w W g cap (P ++ x :: (Q ++ y :: R))) {i j : Nat} (hi : i = P.length) (hj : j = P.length + 1 + Q.length) :
    (((W.setCell ⟨g, i * 3, none⟩ (.slice y.1.1.1 y.1.2.r.length y.1.1.2)).setCell ⟨g, i * 3 + 1, none⟩ (.int .i64 y.1.2.a)).setCell ⟨g, i * 3 + 2, none⟩ (.int .i64 y.1.2.n)).cell? ⟨g, j * 3, none⟩ = some (.slice y.1.1.1 y.1.2.r.length y.1.1.2) ∧ (((W.setCell ⟨g, i * 3, none⟩ (.slice y.1.1.1 y.1.2.r.length y.1.1.2)).setCell ⟨g, i * 3 + 1, none⟩ (.int .i64 y.1.2.a)).setCell ⟨g, i * 3 + 2, none⟩ (.int .i64 y.1.2.n)).cell? ⟨g, j * 3 + 1, none⟩ = some (.int .i64 y.1.2.a) ∧ (((W.setCell ⟨g, i * 3, none⟩ (.slice y.1.1.1 y.1.2.r.length y.1.1.2)).setCell ⟨g, i * 3 + 1, none⟩ (.int .i64 y.1.2.a)).setCell ⟨g, i * 3 + 2, none⟩ (.int .i64 y.1.2.n)).cell? ⟨g, j * 3 + 2, none⟩ = some (.int .i64 y.1.2.n) := by
  subst hi hj
  have h1 := h.set3 encX_len (encX_parts y) (i := P.length) (by simp)
  refine ArrE.cells h1 (x := y) ?_
  rw [set_app]
  have : P ++ y :: (Q ++ y :: R) = (P ++ y :: Q) ++ y :: R := by simp
  rw [this]
  exact get_app' _ _ (by simp only [List.length_append, List.length_cons]; omega)

set_option maxHeartbeats 1000000 in
set_option maxRecDepth 100000 in
theorem swapE_any (g cap : Nat) (w : World) (A X C Y B : List (PX w g)) (W : World) (f : Value) (n a b N : Nat) (hX : X.length = n) (hY : Y.length = n) (ha : a = A.length) (hb : b = A.length + n + C.length) (hN : N = (A ++ (X ++ (C ++ (Y ++ B)))).length) (hN2 : N ≤ 1048576) (h : Arr encX 3 50 w W g cap (A ++ (X ++ (C ++ (Y ++ B))))) :
    Calls Tryz.prog 172 #[.slice (some ⟨g, 0, none⟩) N cap, .int .i64 a, .int .i64 b, .int .i64 n, f] W fun e w' => e = .returned (.tuple #[]) ∧ Arr encX 3 50 w w' g cap (A ++ (Y ++ (C ++ (X ++ B)))) := by
  go_enter Tryz.func172, Tryz.ntmps172
  go_wp2_with fail
  go_loopg [10] n (fun k iv wr => ∃ (i : Nat) (X1 X2 Y1 Y2 : List (PX w g)), i + k = n ∧ iv = .int .i64 i ∧ X = X1 ++ X2 ∧ Y = Y1 ++ Y2 ∧ X1.length = i ∧ Y1.length = i ∧ Arr encX 3 50 w wr g cap (A ++ (Y1 ++ (X2 ++ (C ++ (X1 ++ (Y2 ++ B)))))))
  case atStart => exact ⟨0, [], X, [], Y, by omega, rfl, rfl, rfl, rfl, rfl, by simpa using h⟩
  case round =>
    obtain ⟨i, X1, X2, Y1, Y2, hk, rfl, hXX, hYY, h1, h2, hr⟩ := hrel
    by_cases hlt : i < n
    · obtain ⟨x, X2', rfl⟩ : ∃ x X', X2 = x :: X' := by
        cases X2 with
        | nil => rw [hXX, List.append_nil] at hX; omega
        | cons x X' => exact ⟨x, X', rfl⟩
      obtain ⟨y, Y2', rfl⟩ : ∃ y Y', Y2 = y :: Y' := by
        cases Y2 with
        | nil => rw [hYY, List.append_nil] at hY; omega
        | cons y Y' => exact ⟨y, Y', rfl⟩
      have lX : X1.length + (X2'.length + 1) = n := by rw [← hX, hXX]; simp
      have lY : Y1.length + (Y2'.length + 1) = n := by rw [← hY, hYY]; simp
      have er : A ++ (Y1 ++ (x :: X2' ++ (C ++ (X1 ++ (y :: Y2' ++ B))))) = (A ++ Y1) ++ x :: ((X2' ++ (C ++ X1)) ++ y :: (Y2' ++ B)) := by simp
      rw [er] at hr
      have lN : a + n + (b + n) ≤ 2 * N := by rw [hN, ha, hb]; simp only [List.length_append]; omega
      have hs := ArrE.swap (i := a + i) (j := b + i) hr (by rw [List.length_append]; omega) (by simp only [List.length_append]; omega)
      obtain ⟨x0, x1, x2⟩ := ArrE.cells hr (i := a + i) (get_app' _ _ (by rw [List.length_append]; omega))
      obtain ⟨y0, y1, y2⟩ := ArrE.cells hr (i := b + i) (x := y) (by
        have : (A ++ Y1) ++ x :: ((X2' ++ (C ++ X1)) ++ y :: (Y2' ++ B)) = ((A ++ Y1) ++ x :: (X2' ++ (C ++ X1))) ++ y :: (Y2' ++ B) := by simp
        rw [this]
        exact get_app' _ _ (by simp only [List.length_append, List.length_cons]; omega))
      obtain ⟨u0, u1, u2⟩ := ArrE.mid (i := a + i) (j := b + i) hr (by rw [List.length_append]; omega) (by simp only [List.length_append]; omega)
      have f0 := hr.frozen
      have HS := Lib.hid hs
      have b1 : a + i < N := by rw [hN, ha]; simp only [List.length_append]; omega
      have b2 : b + i < N := by rw [hN, hb]; simp only [List.length_append]; omega
      have HR : Hid (X = (X1 ++ [x]) ++ X2' ∧ Y = (Y1 ++ [y]) ++ Y2' ∧ (X1 ++ [x]).length = i + 1 ∧ (Y1 ++ [y]).length = i + 1) := ⟨by rw [hXX]; simp, by rw [hYY]; simp, by rw [List.length_append, h1]; rfl, by rw [List.length_append, h2]; rfl⟩
      clear hs hXX hYY er lX lY hN ha hb h hX hY h1 h2
      go_wp2_with fail
      go_big_region
      go_wp2_with fail
      go_roundg (gk - 1)
      case measure => omega
      case rel =>
        obtain ⟨r1, r2, r3, r4⟩ := HR.out
        exact ⟨i + 1, _, X2', _, Y2', by omega, int_eq (by omega), r1, r2, r3, r4, by have := HS.out.drew; simpa using this⟩
    · have e : i = n := by omega
      subst e
      have e1 : X2 = [] := by
        have := congrArg List.length hXX
        rw [List.length_append] at this
        exact List.eq_nil_of_length_eq_zero (by omega)
      have e2 : Y2 = [] := by
        have := congrArg List.length hYY
        rw [List.length_append] at this
        exact List.eq_nil_of_length_eq_zero (by omega)
      subst e1 e2
      rw [List.append_nil] at hXX hYY
      subst hXX hYY
      rw [List.nil_append, List.nil_append] at hr
      have HR := Lib.hid hr
      clear hr h ha hb hN hX hY h1 h2
      go_wp2_with fail
      go_end0
      exact ⟨rfl, HR.out⟩
end Go.Proofs.YthkeigljiinlbaaGreat

/- slices.SortStableFunc of edges: turning. -/
namespace Go.Proofs.YthkeigljiinlbaaGreat
open Go.RowKit

set_option maxHeartbeats 1000000 in
set_option maxRecDepth 100000 in
theorem rotE_any (g cap : Nat) (w : World) (A X Y B : List (PX w g)) (W : World) (f : Value) (a m b N : Nat) (ha : a = A.length) (hm : m = A.length + X.length) (hb : b = A.length + X.length + Y.length) (hX : 0 < X.length) (hY : 0 < Y.length) (hN : N = (A ++ (X ++ (Y ++ B))).length) (hN2 : N ≤ 1048576) (h : Arr encX 3 50 w W g cap (A ++ (X ++ (Y ++ B)))) :
    Calls Tryz.prog 155 #[.slice (some ⟨g, 0, none⟩) N cap, .int .i64 a, .int .i64 m, .int .i64 b, f] W fun e w' => e = .returned (.tuple #[]) ∧ Arr encX 3 50 w w' g cap (A ++ (Y ++ (X ++ B))) := by
  have HN := Lib.hid (show N = A.length + X.length + Y.length + B.length by rw [hN]; simp only [List.length_append]; omega)
  obtain ⟨i0, hi0⟩ : ∃ i0, X.length = i0 := ⟨_, rfl⟩
  obtain ⟨j0, hj0⟩ : ∃ j0, Y.length = j0 := ⟨_, rfl⟩
  have e1 : (m : Int) - (a : Int) = (i0 : Int) := by omega
  have e2 : (b : Int) - (m : Int) = (j0 : Int) := by omega
  have hM := Lib.hid hm
  have HI0 := Lib.hid hi0
  have HJ0 := Lib.hid hj0
  have bm : m ≤ 1048576 ∧ i0 ≤ 1048576 ∧ j0 ≤ 1048576 ∧ a ≤ m ∧ m ≤ b ∧ b ≤ 1048576 := by have := HN.out; omega
  obtain ⟨bm1, bm2, bm3, bm4, bm5, bm6⟩ := bm
  clear ha hm hb hN hi0 hj0
  go_enter Tryz.func155, Tryz.ntmps155
  go_wp2_with fail
  clear e1 e2
  go_loopg [10, 11] (i0 + j0) (fun k iv jv wr => ∃ (i j mi : Nat) (P U V Q : List (PX w g)), iv = .int .i64 i ∧ jv = .int .i64 j ∧ Hid (i = U.length ∧ j = V.length ∧ mi = A.length + P.length ∧ m = mi + i) ∧ 0 < i ∧ 0 < j ∧ i + j ≤ k ∧ Hid (P ++ (V ++ (U ++ Q)) = Y ++ X) ∧ Hid (Arr encX 3 50 w wr g cap (A ++ (P ++ (U ++ (V ++ (Q ++ B)))))))
  case atStart => exact ⟨i0, j0, A.length, [], X, Y, [], rfl, rfl, ⟨HI0.out.symm, HJ0.out.symm, rfl, by have := hM.out; have := HI0.out; omega⟩, by have := HI0.out; omega, by have := HJ0.out; omega, Nat.le_refl _, by unfold Hid; simp, by unfold Hid; simpa using h⟩
  case round =>
    obtain ⟨i, j, mi, P, U, V, Q, rfl, rfl, HL, hp1, hp2, hk, HT, HR⟩ := hrel
    have e3 : (m : Int) - (i : Int) = (mi : Int) := by have := HL.out; omega
    obtain ⟨bi, bj⟩ : i ≤ 1048576 ∧ j ≤ 1048576 := by
      have h1 := congrArg List.length HT.out
      simp only [List.length_append] at h1
      obtain ⟨q1, q2, _, _⟩ := HL.out
      have := HN.out
      omega
    have HTL : Hid (P.length + (V.length + (U.length + Q.length)) = Y.length + X.length) := by
      have h1 := congrArg List.length HT.out
      simp only [List.length_append] at h1
      exact h1
    rcases Nat.lt_trichotomy i j with hij | hij | hij
    · obtain ⟨mj, HM⟩ : ∃ mj, Hid (mj = m + j - i) := ⟨_, rfl⟩
      obtain ⟨V1, V2, hV, hV1⟩ := part_at (X := V) (k := j - i) (by have := HL.out; omega)
      have hVl := congrArg List.length hV
      rw [List.length_append] at hVl
      have hr := HR.out
      rw [hV] at hr
      have hc := swapE_any g cap w (A ++ P) U V1 V2 (Q ++ B) wr f i mi mj N (by have := HL.out; omega) (by have := HL.out; omega) (by rw [List.length_append]; have := HL.out; omega) (by rw [List.length_append]; have := HL.out; have := HM.out; omega) (by have := HN.out; have := HTL.out; simp only [List.length_append]; omega) hN2 (by simpa using hr)
      have e4 : (m : Int) + (j : Int) - (i : Int) = (mj : Int) := by have := HM.out; have := HL.out; omega
      have b1 : ((i : Int) != (j : Int)) = true := by simp; omega
      have b2 : decide ((j : Int) < (i : Int)) = false := by simp; omega
      have HV := Lib.hid hV
      have HV1 := Lib.hid hV1
      have HVl := Lib.hid hVl
      obtain ⟨ji, hji⟩ : ∃ ji, j - i = ji := ⟨_, rfl⟩
      have e5 : (j : Int) - (i : Int) = (ji : Int) := by omega
      have HJI := Lib.hid hji
      clear hr hV hV1 hVl hji
      go_wp2_with fail
      refine hc.mono ?_
      rintro e w1 ⟨rfl, hr1⟩
      have HR1 := Lib.hid hr1
      clear hr1
      go_wp2_with fail
      go_roundg (ji + i)
      case measure => have := HJI.out; omega
      case rel => exact ⟨i, ji, mi, P, V2, V1, U ++ Q, rfl, rfl, by unfold Hid; have := HL.out; have := HV1.out; have := HVl.out; have := HJI.out; omega, hp1, by have := HJI.out; omega, by omega, by unfold Hid; rw [← HT.out, HV.out]; simp, by unfold Hid; have := HR1.out; simpa using this⟩
    · have hc := swapE_any g cap w (A ++ P) U [] V (Q ++ B) wr f i mi m N (by have := HL.out; omega) (by have := HL.out; omega) (by rw [List.length_append]; have := HL.out; omega) (by rw [List.length_append]; have := HL.out; simp only [List.length_nil]; omega) (by have := HN.out; have := HTL.out; simp only [List.length_append, List.length_nil]; omega) hN2 (by have := HR.out; simpa using this)
      have b1 : ((i : Int) != (j : Int)) = false := by simp; omega
      have HIJ := Lib.hid hij
      clear hij
      go_wp2_with fail
      refine hc.mono ?_
      rintro e w1 ⟨rfl, hr1⟩
      have HR1 := Lib.hid hr1
      clear hr1
      go_wp2_with fail
      go_end0
      refine ⟨rfl, ?_⟩
      have q := HR1.out
      have e : A ++ P ++ (V ++ ([] ++ (U ++ (Q ++ B)))) = A ++ ((P ++ (V ++ (U ++ Q))) ++ B) := by simp
      rw [e, HT.out] at q
      simpa using q
    · obtain ⟨U1, U2, hU, hU1⟩ := part_at (X := U) (k := j) (by have := HL.out; omega)
      have hUl := congrArg List.length hU
      rw [List.length_append] at hUl
      have hr := HR.out
      rw [hU] at hr
      have hc := swapE_any g cap w (A ++ P) U1 U2 V (Q ++ B) wr f j mi m N hU1 (by have := HL.out; omega) (by rw [List.length_append]; have := HL.out; omega) (by rw [List.length_append]; have := HL.out; omega) (by have := HN.out; have := HTL.out; simp only [List.length_append]; omega) hN2 (by simpa using hr)
      have b1 : ((i : Int) != (j : Int)) = true := by simp; omega
      have b2 : decide ((j : Int) < (i : Int)) = true := by simp; omega
      have HU := Lib.hid hU
      have HU1 := Lib.hid hU1
      have HUl := Lib.hid hUl
      obtain ⟨ij, hij2⟩ : ∃ ij, i - j = ij := ⟨_, rfl⟩
      have e5 : (i : Int) - (j : Int) = (ij : Int) := by omega
      have HIJ := Lib.hid hij2
      clear hr hU hU1 hUl hij2
      go_wp2_with fail
      refine hc.mono ?_
      rintro e w1 ⟨rfl, hr1⟩
      have HR1 := Lib.hid hr1
      clear hr1
      go_wp2_with fail
      go_roundg (ij + j)
      case measure => have := HIJ.out; omega
      case rel => exact ⟨ij, j, m - ij, P ++ V, U2, U1, Q, rfl, rfl, by unfold Hid; rw [List.length_append]; have := HL.out; have := HU1.out; have := HUl.out; have := HIJ.out; omega, by have := HIJ.out; omega, hp2, by omega, by unfold Hid; rw [← HT.out, HU.out]; simp, by unfold Hid; have := HR1.out; simpa using this⟩
end Go.Proofs.YthkeigljiinlbaaGreat
