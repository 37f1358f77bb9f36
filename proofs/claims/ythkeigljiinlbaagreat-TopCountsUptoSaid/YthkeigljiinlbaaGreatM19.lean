/- slices.SortStableFunc of jumps: merging. -/
import Derived.Test.YthkeigljiinlbaaGreatM18
import Derived.Deep.DeepCutAuto
namespace Go.Proofs.YthkeigljiinlbaaGreat
open Go.RowKit

theorem nil_of_false {α : Type} {L : List α} (h : false = decide (0 < L.length)) : L = [] := List.eq_nil_of_length_eq_zero (by have := of_decide_eq_false h.symm; omega)
theorem pos_of_true {α : Type} {L : List α} (h : true = decide (0 < L.length)) : 0 < L.length := of_decide_eq_true h.symm
/-- What merging does, of so many things at the most. -/
def SymC (g cap : Nat) (w : World) (N n : Nat) : Prop := ∀ (A X Y B : List Jp) (W : World) (a m b : Nat), X.length + Y.length ≤ n → 0 < X.length → 0 < Y.length → Srt keyJ X → Srt keyJ Y → a = A.length → m = A.length + X.length → b = A.length + X.length + Y.length → N = A.length + X.length + Y.length + B.length →
  Arr encJ 2 80 w W g cap (A ++ (X ++ (Y ++ B))) →
  Calls Tryz.prog 157 #[.slice (some ⟨g, 0, none⟩) N cap, .int .i64 a, .int .i64 m, .int .i64 b, .func (.func 98) #[] #[]] W fun e w' => e = .returned (.tuple #[]) ∧ ∃ Z : List Jp, Z.Perm (X ++ Y) ∧ Srt keyJ Z ∧ Arr encJ 2 80 w w' g cap (A ++ (Z ++ B))

set_option maxHeartbeats 4000000 in
set_option maxRecDepth 100000 in
theorem sym3J (g cap : Nat) (w : World) (A X Y B : List Jp) (W : World) (a m b N n : Nat) (ih : SymC g cap w N n) (hn : X.length + Y.length = n + 1) (ha : a = A.length) (hm : m = A.length + X.length) (hb : b = A.length + X.length + Y.length) (hX2 : 2 ≤ X.length) (hY2 : 2 ≤ Y.length) (hN : N = A.length + X.length + Y.length + B.length) (hN2 : N ≤ 1048576) (hX : Srt keyJ X) (hY : Srt keyJ Y) (h : Arr encJ 2 80 w W g cap (A ++ (X ++ (Y ++ B)))) :
    Calls Tryz.prog 157 #[.slice (some ⟨g, 0, none⟩) N cap, .int .i64 a, .int .i64 m, .int .i64 b, .func (.func 98) #[] #[]] W fun e w' => e = .returned (.tuple #[]) ∧ ∃ Z : List Jp, Z.Perm (X ++ Y) ∧ Srt keyJ Z ∧ Arr encJ 2 80 w w' g cap (A ++ (Z ++ B)) := by
  have HL := Lib.hid (show a = A.length ∧ m = A.length + X.length ∧ b = A.length + X.length + Y.length ∧ N = A.length + X.length + Y.length + B.length ∧ X.length + Y.length = n + 1 ∧ 2 ≤ X.length ∧ 2 ≤ Y.length from ⟨ha, hm, hb, hN, hn, hX2, hY2⟩)
  have HH := Lib.hid h
  have IH := Lib.hid ih
  obtain ⟨ma, hma⟩ : ∃ ma : Nat, (m : Int) - (a : Int) = (ma : Int) := ⟨m - a, by omega⟩
  have e0 : ((ma : Int) == 1) = false := by simp; omega
  obtain ⟨mb, hmb⟩ : ∃ mb : Nat, (b : Int) - (m : Int) = (mb : Int) := ⟨b - m, by omega⟩
  have e1 : ((mb : Int) == 1) = false := by simp; omega
  obtain ⟨mid, hmid⟩ : ∃ mid : Nat, ((a : Int) + (b : Int)) / 2 = (mid : Int) := ⟨(a + b) / 2, by omega⟩
  obtain ⟨nn, hnn⟩ : ∃ nn : Nat, (mid : Int) + (m : Int) = (nn : Int) := ⟨mid + m, by omega⟩
  obtain ⟨p, hp⟩ : ∃ p : Nat, (nn : Int) - 1 = (p : Int) := ⟨nn - 1, by omega⟩
  obtain ⟨s0, r0, hs⟩ : ∃ s0 r0 : Nat, (mid < m ∧ s0 = nn - b ∧ r0 = mid) ∨ (m ≤ mid ∧ s0 = a ∧ r0 = m) := by
    rcases Nat.lt_or_ge mid m with q | q
    · exact ⟨_, _, .inl ⟨q, rfl, rfl⟩⟩
    · exact ⟨_, _, .inr ⟨q, rfl, rfl⟩⟩
  have HS := Lib.hid hs
  obtain ⟨bb, ba, bm, bN⟩ : b ≤ 1048576 ∧ a < m ∧ m < b ∧ b ≤ N := by omega
  obtain ⟨bs1, bs2, bs3, bs4, bs5, bs6, bs7⟩ : a ≤ s0 ∧ s0 ≤ r0 ∧ r0 ≤ m ∧ r0 ≤ mid ∧ mid < b ∧ a < mid ∧ nn ≤ 2097152 := by omega
  have HMM := Lib.hid (show nn = mid + m ∧ p + 1 = nn ∧ m + r0 ≤ nn ∧ nn ≤ s0 + b from by omega)
  obtain ⟨t, ht⟩ : ∃ t, decide (mid < m) = t := ⟨_, rfl⟩
  have HT := Lib.hid ht
  clear ha hm hb hN hn hX2 hY2 hs h ih
  go_enter Tryz.func157, Tryz.ntmps157
  go_upto_if 140 with fail
  go_cut [20, 21] (fun sv rv wc => sv = .int .i64 s0 ∧ rv = .int .i64 r0 ∧ wc = W)
  case first =>
    clear ht
    cases t with
    | true =>
      have q1 : mid < m := by have := HT.out; simp at this; omega
      have Q3 := Lib.hid (show s0 = nn - b ∧ r0 = mid from by have := HS.out; omega)
      have e2 : (nn : Int) - (b : Int) = (s0 : Int) := by have := HMM.out; have := Q3.out; omega
      clear q1
      go_wp2_with fail
      go_meet
      case rel => exact ⟨rfl, by rw [Q3.out.2], rfl⟩
    | false =>
      have q1 : m ≤ mid := by have := HT.out; simp at this; omega
      have Q3 := Lib.hid (show s0 = a ∧ r0 = m from by have := HS.out; omega)
      clear q1
      go_wp2_with fail
      go_meet
      case rel => exact ⟨by rw [Q3.out.1], by rw [Q3.out.2], rfl⟩
  case rest =>
  obtain ⟨rfl, rfl, rfl⟩ := hcut
  clear hma hmb e0 e1 hmid hnn ht
  go_wp2_with fail
  clear hp
  go_loopg [20, 21, 23] r0 (fun k sv rv cv wr => ∃ (s r : Nat), sv = .int .i64 s ∧ rv = .int .i64 r ∧ s0 ≤ s ∧ s ≤ r ∧ r ≤ r0 ∧ r - s ≤ k ∧ Hid (∀ c, s0 ≤ c → c < s → kd keyJ (A ++ (X ++ (Y ++ B))) c ≤ kd keyJ (A ++ (X ++ (Y ++ B))) (nn - 1 - c)) ∧ Hid (∀ c, r ≤ c → c < r0 → kd keyJ (A ++ (X ++ (Y ++ B))) (nn - 1 - c) < kd keyJ (A ++ (X ++ (Y ++ B))) c) ∧ Hid (Arr encJ 2 80 w wr g cap (A ++ (X ++ (Y ++ B)))))
  case atStart => exact ⟨s0, r0, rfl, rfl, Nat.le_refl _, bs2, Nat.le_refl _, by omega, fun c q1 q2 => by omega, fun c q1 q2 => by omega, HH.out⟩
  case round =>
    obtain ⟨s, r, rfl, rfl, hs0, hsr, hr0, hk, H1, H2, HR⟩ := hrel
    by_cases hlt : s < r
    · obtain ⟨cc, Hc⟩ : ∃ cc, Hid (cc = (s + r) / 2) := ⟨_, rfl⟩
      have hb1 : s ≤ cc ∧ cc < r := by have := Hc.out; omega
      have e2 : ((s : Int) + (r : Int)) / 2 = (cc : Int) := by have := Hc.out; omega
      obtain ⟨pc, e3⟩ : ∃ pc : Nat, (p : Int) - (cc : Int) = (pc : Int) := ⟨p - cc, by have := HMM.out; omega⟩
      have HPC := Lib.hid (show pc = nn - 1 - cc ∧ m ≤ pc ∧ pc < b from by have := HMM.out; omega)
      have hwp : IntKind.i64.wrap (pc : Int) = (pc : Int) := by rw [IntKind.wrap_i64]; have := HPC.out; omega
      have hcN : cc < N := by omega
      have hpN : pc < N := by have := HPC.out; omega
      obtain ⟨x, hx⟩ : ∃ x, (A ++ (X ++ (Y ++ B)))[cc]? = some x := ⟨_, List.getElem?_eq_getElem (by simp only [List.length_append]; have := HL.out; omega)⟩
      obtain ⟨y, hy⟩ : ∃ y, (A ++ (X ++ (Y ++ B)))[pc]? = some y := ⟨_, List.getElem?_eq_getElem (by simp only [List.length_append]; have := HL.out; omega)⟩
      obtain ⟨x0, x1⟩ := ArrJ.cells HR.out hx
      obtain ⟨y0, y1⟩ := ArrJ.cells HR.out hy
      have HKX := Lib.hid (kd_of (key := keyJ) hx)
      have HKY := Lib.hid (kd_of (key := keyJ) hy)
      have hcm := fun wx (kx : Kept (fun _ => False) wr wx) => cmpJ_any y x wx (HR.out.same kx).kept
      have SX := Lib.hid (show ∀ c d, a ≤ c → c ≤ d → d < m → kd keyJ (A ++ (X ++ (Y ++ B))) c ≤ kd keyJ (A ++ (X ++ (Y ++ B))) d from fun c d q1 q2 q3 => hX.kd (by have := HL.out; omega) q2 (by have := HL.out; omega))
      have SY := Lib.hid (show ∀ c d, m ≤ c → c ≤ d → d < b → kd keyJ (A ++ (X ++ (Y ++ B))) c ≤ kd keyJ (A ++ (X ++ (Y ++ B))) d from fun c d q1 q2 q3 => by
        have e : (A ++ (X ++ (Y ++ B))) = (A ++ X) ++ (Y ++ B) := by simp
        rw [e]
        exact hY.kd (by rw [List.length_append]; have := HL.out; omega) q2 (by rw [List.length_append]; have := HL.out; omega))
      clear hx hy
      by_cases hlt2 : keyJ y < keyJ x
      · have hneg : decide (cmpIJ y x < 0) = true := by simpa using (cmpJ_neg y x).2 hlt2
        have hlt2' := Lib.hid hlt2
        clear hlt2
        generalize cmpIJ y x = cv at *
        go_wp2_with fail
        go_region_held3 (fun V => V.cell? ⟨g, pc * 2, none⟩ = some (.int .i64 y.a) ∧ V.cell? ⟨g, pc * 2 + 1, none⟩ = some (.int .i64 y.n) ∧ V.cell? ⟨g, cc * 2, none⟩ = some (.int .i64 x.a) ∧ V.cell? ⟨g, cc * 2 + 1, none⟩ = some (.int .i64 x.n) ∧ Kept (fun _ => False) wr V)
          (first | exact ⟨y0, y1, x0, x1, (Kept.refl _ wr).drew⟩ | exact ⟨k3.cell (w := wr.drew) y0 (fun q => q), k3.cell (w := wr.drew) y1 (fun q => q), k3.cell (w := wr.drew) x0 (fun q => q), k3.cell (w := wr.drew) x1 (fun q => q), (Kept.refl _ wr).drew.trans k3⟩)
          (first | (refine (hcm _ (Kept.refl _ wr).drew).mono ?_; rintro e w3 ⟨rfl, k3⟩))
        have K3 := Lib.hid ((Kept.refl (fun _ => False) wr).drew.trans k3)
        clear k3
        go_wp2_with fail
        go_roundg (cc - s)
        case measure => omega
        case rel =>
          refine ⟨s, cc, rfl, rfl, hs0, by omega, by omega, Nat.le_refl _, H1, fun c q1 q2 => ?_, HR.out.same K3.out⟩
          have t0 := HPC.out
          have t1 := SX.out cc c (by omega) q1 (by omega)
          have t2 := SY.out (nn - 1 - c) pc (by have := HMM.out; omega) (by omega) (by omega)
          have t3 := HKX.out
          have t4 := HKY.out
          have t5 := hlt2'.out
          omega
      · have hneg : decide (cmpIJ y x < 0) = false := by simp; have := (cmpJ_neg y x); omega
        have hlt2' := Lib.hid hlt2
        clear hlt2
        generalize cmpIJ y x = cv at *
        go_wp2_with fail
        go_region_held3 (fun V => V.cell? ⟨g, pc * 2, none⟩ = some (.int .i64 y.a) ∧ V.cell? ⟨g, pc * 2 + 1, none⟩ = some (.int .i64 y.n) ∧ V.cell? ⟨g, cc * 2, none⟩ = some (.int .i64 x.a) ∧ V.cell? ⟨g, cc * 2 + 1, none⟩ = some (.int .i64 x.n) ∧ Kept (fun _ => False) wr V)
          (first | exact ⟨y0, y1, x0, x1, (Kept.refl _ wr).drew⟩ | exact ⟨k3.cell (w := wr.drew) y0 (fun q => q), k3.cell (w := wr.drew) y1 (fun q => q), k3.cell (w := wr.drew) x0 (fun q => q), k3.cell (w := wr.drew) x1 (fun q => q), (Kept.refl _ wr).drew.trans k3⟩)
          (first | (refine (hcm _ (Kept.refl _ wr).drew).mono ?_; rintro e w3 ⟨rfl, k3⟩))
        have K3 := Lib.hid ((Kept.refl (fun _ => False) wr).drew.trans k3)
        clear k3
        go_wp2_with fail
        go_roundg (r - (cc + 1))
        case measure => omega
        case rel =>
          refine ⟨cc + 1, r, int_eq (by omega), rfl, by omega, by omega, hr0, Nat.le_refl _, fun c q1 q2 => ?_, H2, HR.out.same K3.out⟩
          have t0 := HPC.out
          have t1 := SX.out c cc (by omega) (by omega) (by omega)
          have t2 := SY.out pc (nn - 1 - c) (by omega) (by omega) (by have := HMM.out; omega)
          have t3 := HKX.out
          have t4 := HKY.out
          have t5 := hlt2'.out
          omega
    · have e : s = r := by omega
      subst e
      clear hk
      obtain ⟨en, hen⟩ : ∃ en : Nat, (nn : Int) - (s : Int) = (en : Int) := ⟨nn - s, by have := HMM.out; omega⟩
      obtain ⟨X1, X2, HXX, HX1⟩ : ∃ X1 X2, Hid (X = X1 ++ X2) ∧ Hid (s = a + X1.length ∧ X.length = X1.length + X2.length) := by
        obtain ⟨X1, X2, q1, q2⟩ := part_at (X := X) (k := s - a) (by have := HL.out; omega)
        have := congrArg List.length q1
        rw [List.length_append] at this
        exact ⟨X1, X2, q1, by omega, this⟩
      obtain ⟨Y1, Y2, HYY, HY1⟩ : ∃ Y1 Y2, Hid (Y = Y1 ++ Y2) ∧ Hid (en = m + Y1.length ∧ Y.length = Y1.length + Y2.length) := by
        obtain ⟨Y1, Y2, q1, q2⟩ := part_at (X := Y) (k := nn - s - m) (by have := HL.out; have := HMM.out; omega)
        have := congrArg List.length q1
        rw [List.length_append] at this
        exact ⟨Y1, Y2, q1, by have := HMM.out; omega, this⟩
      have HC : Hid ((∀ x ∈ X1, ∀ y ∈ Y2, keyJ x ≤ keyJ y) ∧ (∀ y ∈ Y1, ∀ x ∈ X2, keyJ y ≤ keyJ x)) := by
        have eD : (A ++ (X ++ (Y ++ B))) = A ++ (X1 ++ (X2 ++ (Y1 ++ (Y2 ++ B)))) := by rw [HXX.out, HYY.out]; simp
        have t1 := H1.out
        have t2 := H2.out
        rw [eD] at t1 t2
        exact sym_cross (by rw [← HXX.out]; exact hX) (by rw [← HYY.out]; exact hY) (by have := HX1.out; have := HL.out; omega) (by have := HX1.out; have := HL.out; have := HY1.out; omega) (by have := HMM.out; omega)
          (fun q1 q2 => by have := HX1.out; have := HL.out; have := HY1.out; have := HS.out; have := HMM.out; omega) (fun q1 q2 => by have := HX1.out; have := HL.out; have := HY1.out; have := HS.out; have := HMM.out; omega) t1 t2
      have bse : s ≤ 1048576 ∧ en ≤ 1048576 := by have := HY1.out; have := HL.out; omega
      have E1 := Lib.hid (show en = mid + X2.length ∧ mid = s + Y1.length from by have := HX1.out; have := HY1.out; have := HL.out; have := HMM.out; omega)
      obtain ⟨t1, ht1⟩ : ∃ t1, decide (s < m) = t1 := ⟨_, rfl⟩
      obtain ⟨t2, ht2⟩ : ∃ t2, decide (m < en) = t2 := ⟨_, rfl⟩
      obtain ⟨t3, ht3⟩ : ∃ t3, decide (a < s) = t3 := ⟨_, rfl⟩
      obtain ⟨t6, ht6⟩ : ∃ t6, decide (en < b) = t6 := ⟨_, rfl⟩
      have T1 := Lib.hid (show t1 = decide (0 < X2.length) from by rw [← ht1]; have := HX1.out; have := HL.out; congr 1; apply propext; omega)
      have T2 := Lib.hid (show t2 = decide (0 < Y1.length) from by rw [← ht2]; have := HY1.out; congr 1; apply propext; omega)
      have T3 := Lib.hid (show t3 = decide (0 < X1.length) from by rw [← ht3]; have := HX1.out; congr 1; apply propext; omega)
      have ht4 : decide (s < mid) = t2 := by rw [T2.out]; have := E1.out; congr 1; apply propext; omega
      have ht5 : decide (mid < en) = t1 := by rw [T1.out]; have := E1.out; congr 1; apply propext; omega
      have T6 := Lib.hid (show t6 = decide (0 < Y2.length) from by rw [← ht6]; have := HY1.out; have := HL.out; congr 1; apply propext; omega)
      have HR1 : Hid (Arr encJ 2 80 w wr g cap (A ++ (X1 ++ (X2 ++ (Y1 ++ (Y2 ++ B)))))) := by have := HR.out; rw [HXX.out, HYY.out] at this; unfold Hid; simpa using this
      have BS := Lib.hid (show a ≤ s ∧ s ≤ m ∧ m < b ∧ b ≤ N ∧ mid < b ∧ a < mid from by omega)
      have SXY := Lib.hid (show Srt keyJ (X1 ++ X2) ∧ Srt keyJ (Y1 ++ Y2) from ⟨by rw [← HXX.out]; exact hX, by rw [← HYY.out]; exact hY⟩)
      have HROT : Hid (t1 = true → t2 = true → Calls Tryz.prog 173 #[.slice (some ⟨g, 0, none⟩) N cap, .int .i64 s, .int .i64 m, .int .i64 en, .func (.func 98) #[] #[]] wr fun e wz => e = .returned (.tuple #[]) ∧ Arr encJ 2 80 w wz g cap (A ++ (X1 ++ (Y1 ++ (X2 ++ (Y2 ++ B)))))) := fun q1 q2 =>
        rotJ_any g cap w (A ++ X1) X2 Y1 (Y2 ++ B) wr (.func (.func 98) #[] #[]) s m en N (by rw [List.length_append]; have := HX1.out; have := HY1.out; have := HL.out; have := E1.out; have := BS.out; omega) (by rw [List.length_append]; have := HX1.out; have := HY1.out; have := HL.out; have := E1.out; have := BS.out; omega) (by rw [List.length_append]; have := HX1.out; have := HY1.out; have := HL.out; have := E1.out; have := BS.out; omega)
          (pos_of_true (q1.symm.trans T1.out)) (pos_of_true (q2.symm.trans T2.out)) (by simp only [List.length_append]; have := HX1.out; have := HY1.out; have := HL.out; have := E1.out; have := BS.out; omega) hN2 (by have := HR1.out; simpa using this) |>.mono fun e wz q => ⟨q.1, by simpa using q.2⟩
      have NROT : Hid ((t1 = false ∨ t2 = false) → Arr encJ 2 80 w wr g cap (A ++ (X1 ++ (Y1 ++ (X2 ++ (Y2 ++ B)))))) := fun hq => by
        have h1 := HR1.out
        rcases hq with q | q
        · have q1 := nil_of_false (q.symm.trans T1.out)
          rw [q1] at h1 ⊢
          simpa using h1
        · have q1 := nil_of_false (q.symm.trans T2.out)
          rw [q1] at h1 ⊢
          simpa using h1
      have HS1 : Hid (t3 = true → t2 = true → ∀ wx, Arr encJ 2 80 w wx g cap (A ++ (X1 ++ (Y1 ++ (X2 ++ (Y2 ++ B))))) → Calls Tryz.prog 157 #[.slice (some ⟨g, 0, none⟩) N cap, .int .i64 a, .int .i64 s, .int .i64 mid, .func (.func 98) #[] #[]] wx fun e wz => e = .returned (.tuple #[]) ∧ ∃ Z1, Z1.Perm (X1 ++ Y1) ∧ Srt keyJ Z1 ∧ Arr encJ 2 80 w wz g cap (A ++ (Z1 ++ (X2 ++ (Y2 ++ B))))) := fun q3 q2 wx hr =>
        IH.out A X1 Y1 (X2 ++ (Y2 ++ B)) wx a s mid (by have := pos_of_true (q2.symm.trans T2.out); have := HX1.out; have := HY1.out; have := HL.out; have := E1.out; have := BS.out; omega) (pos_of_true (q3.symm.trans T3.out)) (pos_of_true (q2.symm.trans T2.out)) (srt_append.1 SXY.out.1).1 (srt_append.1 SXY.out.2).1 (by have := HX1.out; have := HY1.out; have := HL.out; have := E1.out; have := BS.out; omega) (by have := HX1.out; have := HY1.out; have := HL.out; have := E1.out; have := BS.out; omega) (by have := HX1.out; have := HY1.out; have := HL.out; have := E1.out; have := BS.out; omega) (by simp only [List.length_append]; have := HX1.out; have := HY1.out; have := HL.out; have := E1.out; have := BS.out; omega) hr
      have NS1 : Hid ((t3 = false ∨ t2 = false) → ∀ wx, Arr encJ 2 80 w wx g cap (A ++ (X1 ++ (Y1 ++ (X2 ++ (Y2 ++ B))))) → ∃ Z1, Z1.Perm (X1 ++ Y1) ∧ Srt keyJ Z1 ∧ Arr encJ 2 80 w wx g cap (A ++ (Z1 ++ (X2 ++ (Y2 ++ B))))) := fun hq wx hr => by
        refine ⟨X1 ++ Y1, List.Perm.refl _, ?_, by simpa using hr⟩
        have s1 := (srt_append.1 SXY.out.1).1
        have s2 := (srt_append.1 SXY.out.2).1
        rcases hq with q | q
        · rw [nil_of_false (q.symm.trans T3.out)]; simpa using s2
        · rw [nil_of_false (q.symm.trans T2.out)]; simpa using s1
      have fin : ∀ (Z1 Z2 : List Jp) (wz : World), Z1.Perm (X1 ++ Y1) → Srt keyJ Z1 → Z2.Perm (X2 ++ Y2) → Srt keyJ Z2 → Arr encJ 2 80 w wz g cap ((A ++ Z1) ++ (Z2 ++ B)) → ∃ Z : List Jp, Z.Perm (X ++ Y) ∧ Srt keyJ Z ∧ Arr encJ 2 80 w wz g cap (A ++ (Z ++ B)) := fun Z1 Z2 wz p1 s1 p2 s2 hr => by
        obtain ⟨d1, d2⟩ := sym_done SXY.out.1 SXY.out.2 HC.out.1 HC.out.2 p1 p2 s1 s2
        exact ⟨Z1 ++ Z2, by rw [HXX.out, HYY.out]; exact d2, d1, by simpa using hr⟩
      have HS2 : Hid (t1 = true → t6 = true → ∀ wx Z1, Z1.Perm (X1 ++ Y1) → Srt keyJ Z1 → Arr encJ 2 80 w wx g cap (A ++ (Z1 ++ (X2 ++ (Y2 ++ B)))) → Calls Tryz.prog 157 #[.slice (some ⟨g, 0, none⟩) N cap, .int .i64 mid, .int .i64 en, .int .i64 b, .func (.func 98) #[] #[]] wx fun e wz => e = .returned (.tuple #[]) ∧ ∃ Z : List Jp, Z.Perm (X ++ Y) ∧ Srt keyJ Z ∧ Arr encJ 2 80 w wz g cap (A ++ (Z ++ B))) := fun q1 q6 wx Z1 p1 s1 hr => by
        have hzl : Z1.length = X1.length + Y1.length := by have := p1.length_eq; rw [List.length_append] at this; exact this
        refine (IH.out (A ++ Z1) X2 Y2 B wx mid en b (by have := pos_of_true (q1.symm.trans T1.out); have := HX1.out; have := HY1.out; have := HL.out; have := E1.out; have := BS.out; omega) (pos_of_true (q1.symm.trans T1.out)) (pos_of_true (q6.symm.trans T6.out)) (srt_append.1 SXY.out.1).2.1 (srt_append.1 SXY.out.2).2.1 (by rw [List.length_append]; have := HX1.out; have := HY1.out; have := HL.out; have := E1.out; have := BS.out; omega) (by rw [List.length_append]; have := HX1.out; have := HY1.out; have := HL.out; have := E1.out; have := BS.out; omega) (by rw [List.length_append]; have := HX1.out; have := HY1.out; have := HL.out; have := E1.out; have := BS.out; omega) (by rw [List.length_append]; have := HX1.out; have := HY1.out; have := HL.out; have := E1.out; have := BS.out; omega) (by simpa using hr)).mono ?_
        rintro e wz ⟨he, Z2, p2, s2, hr5⟩
        exact ⟨he, fin Z1 Z2 wz p1 s1 p2 s2 hr5⟩
      have NS2 : Hid ((t1 = false ∨ t6 = false) → ∀ wz Z1, Z1.Perm (X1 ++ Y1) → Srt keyJ Z1 → Arr encJ 2 80 w wz g cap (A ++ (Z1 ++ (X2 ++ (Y2 ++ B)))) → ∃ Z : List Jp, Z.Perm (X ++ Y) ∧ Srt keyJ Z ∧ Arr encJ 2 80 w wz g cap (A ++ (Z ++ B))) := fun hq wz Z1 p1 s1 hr => by
        refine fin Z1 (X2 ++ Y2) wz p1 s1 (List.Perm.refl _) ?_ (by simpa using hr)
        have s3 := (srt_append.1 SXY.out.1).2.1
        have s4 := (srt_append.1 SXY.out.2).2.1
        rcases hq with q | q
        · rw [nil_of_false (q.symm.trans T1.out)]; simpa using s4
        · rw [nil_of_false (q.symm.trans T6.out)]; simpa using s3
      have b1 : s ≤ 1048576 ∧ en ≤ 1048576 := bse
      clear HR H1 H2 HS HT HH bb ba bm bN bs1 bs2 bs3 bs4 bs5 bs6 bs7 hs0 hsr hr0 hlt T1 T2 T3 T6 HR1 BS SXY fin E1 HXX HYY HC HX1 HY1 HL HMM IH hX hY bse hN2
      cases t1 with
      | false =>
        cases t2 with
        | false =>
          cases t3 with
          | false =>
            cases t6 with
            | false =>
              have HA1 := Lib.hid (NROT.out (by simp))
              obtain ⟨Z1, HB1⟩ : ∃ Z1, Hid (_ ∧ _ ∧ _) := NS1.out (by simp) _ HA1.out
              clear HA1 HS1 NS1
              have HF := Lib.hid (NS2.out (by simp) _ Z1 HB1.out.1 HB1.out.2.1 HB1.out.2.2)
              clear HB1 HS2 NS2
              go_wp2_with fail
              go_end0
              exact ⟨rfl, HF.out⟩
            | true =>
              have HA1 := Lib.hid (NROT.out (by simp))
              obtain ⟨Z1, HB1⟩ : ∃ Z1, Hid (_ ∧ _ ∧ _) := NS1.out (by simp) _ HA1.out
              clear HA1 HS1 NS1
              have HF := Lib.hid (NS2.out (by simp) _ Z1 HB1.out.1 HB1.out.2.1 HB1.out.2.2)
              clear HB1 HS2 NS2
              go_wp2_with fail
              go_end0
              exact ⟨rfl, HF.out⟩
          | true =>
            cases t6 with
            | false =>
              have HA1 := Lib.hid (NROT.out (by simp))
              obtain ⟨Z1, HB1⟩ : ∃ Z1, Hid (_ ∧ _ ∧ _) := NS1.out (by simp) _ HA1.out
              clear HA1 HS1 NS1
              have HF := Lib.hid (NS2.out (by simp) _ Z1 HB1.out.1 HB1.out.2.1 HB1.out.2.2)
              clear HB1 HS2 NS2
              go_wp2_with fail
              go_end0
              exact ⟨rfl, HF.out⟩
            | true =>
              have HA1 := Lib.hid (NROT.out (by simp))
              obtain ⟨Z1, HB1⟩ : ∃ Z1, Hid (_ ∧ _ ∧ _) := NS1.out (by simp) _ HA1.out
              clear HA1 HS1 NS1
              have HF := Lib.hid (NS2.out (by simp) _ Z1 HB1.out.1 HB1.out.2.1 HB1.out.2.2)
              clear HB1 HS2 NS2
              go_wp2_with fail
              go_end0
              exact ⟨rfl, HF.out⟩
        | true =>
          cases t3 with
          | false =>
            cases t6 with
            | false =>
              have HA1 := Lib.hid (NROT.out (by simp))
              obtain ⟨Z1, HB1⟩ : ∃ Z1, Hid (_ ∧ _ ∧ _) := NS1.out (by simp) _ HA1.out
              clear HA1 HS1 NS1
              have HF := Lib.hid (NS2.out (by simp) _ Z1 HB1.out.1 HB1.out.2.1 HB1.out.2.2)
              clear HB1 HS2 NS2
              go_wp2_with fail
              go_end0
              exact ⟨rfl, HF.out⟩
            | true =>
              have HA1 := Lib.hid (NROT.out (by simp))
              obtain ⟨Z1, HB1⟩ : ∃ Z1, Hid (_ ∧ _ ∧ _) := NS1.out (by simp) _ HA1.out
              clear HA1 HS1 NS1
              have HF := Lib.hid (NS2.out (by simp) _ Z1 HB1.out.1 HB1.out.2.1 HB1.out.2.2)
              clear HB1 HS2 NS2
              go_wp2_with fail
              go_end0
              exact ⟨rfl, HF.out⟩
          | true =>
            cases t6 with
            | false =>
              have HA1 := Lib.hid (NROT.out (by simp))
              go_wp2_with fail
              refine (HS1.out (by simp) (by simp) _ HA1.out).mono ?_
              rintro e wb ⟨rfl, Z1, p1, s1, hrb⟩
              have HB1 := Lib.hid (show _ ∧ _ ∧ _ from ⟨p1, s1, hrb⟩)
              clear p1 s1 hrb HA1 HS1 NS1
              have HF := Lib.hid (NS2.out (by simp) _ Z1 HB1.out.1 HB1.out.2.1 HB1.out.2.2)
              clear HB1 HS2 NS2
              go_wp2_with fail
              go_end0
              exact ⟨rfl, HF.out⟩
            | true =>
              have HA1 := Lib.hid (NROT.out (by simp))
              go_wp2_with fail
              refine (HS1.out (by simp) (by simp) _ HA1.out).mono ?_
              rintro e wb ⟨rfl, Z1, p1, s1, hrb⟩
              have HB1 := Lib.hid (show _ ∧ _ ∧ _ from ⟨p1, s1, hrb⟩)
              clear p1 s1 hrb HA1 HS1 NS1
              have HF := Lib.hid (NS2.out (by simp) _ Z1 HB1.out.1 HB1.out.2.1 HB1.out.2.2)
              clear HB1 HS2 NS2
              go_wp2_with fail
              go_end0
              exact ⟨rfl, HF.out⟩
      | true =>
        cases t2 with
        | false =>
          cases t3 with
          | false =>
            cases t6 with
            | false =>
              have HA1 := Lib.hid (NROT.out (by simp))
              obtain ⟨Z1, HB1⟩ : ∃ Z1, Hid (_ ∧ _ ∧ _) := NS1.out (by simp) _ HA1.out
              clear HA1 HS1 NS1
              have HF := Lib.hid (NS2.out (by simp) _ Z1 HB1.out.1 HB1.out.2.1 HB1.out.2.2)
              clear HB1 HS2 NS2
              go_wp2_with fail
              go_end0
              exact ⟨rfl, HF.out⟩
            | true =>
              have HA1 := Lib.hid (NROT.out (by simp))
              obtain ⟨Z1, HB1⟩ : ∃ Z1, Hid (_ ∧ _ ∧ _) := NS1.out (by simp) _ HA1.out
              clear HA1 HS1 NS1
              go_wp2_with fail
              refine (HS2.out (by simp) (by simp) _ Z1 HB1.out.1 HB1.out.2.1 HB1.out.2.2).mono ?_
              rintro e wd ⟨rfl, hf⟩
              have HF := Lib.hid hf
              clear hf HB1 HS2 NS2
              go_wp2_with fail
              go_end0
              exact ⟨rfl, HF.out⟩
          | true =>
            cases t6 with
            | false =>
              have HA1 := Lib.hid (NROT.out (by simp))
              obtain ⟨Z1, HB1⟩ : ∃ Z1, Hid (_ ∧ _ ∧ _) := NS1.out (by simp) _ HA1.out
              clear HA1 HS1 NS1
              have HF := Lib.hid (NS2.out (by simp) _ Z1 HB1.out.1 HB1.out.2.1 HB1.out.2.2)
              clear HB1 HS2 NS2
              go_wp2_with fail
              go_end0
              exact ⟨rfl, HF.out⟩
            | true =>
              have HA1 := Lib.hid (NROT.out (by simp))
              obtain ⟨Z1, HB1⟩ : ∃ Z1, Hid (_ ∧ _ ∧ _) := NS1.out (by simp) _ HA1.out
              clear HA1 HS1 NS1
              go_wp2_with fail
              refine (HS2.out (by simp) (by simp) _ Z1 HB1.out.1 HB1.out.2.1 HB1.out.2.2).mono ?_
              rintro e wd ⟨rfl, hf⟩
              have HF := Lib.hid hf
              clear hf HB1 HS2 NS2
              go_wp2_with fail
              go_end0
              exact ⟨rfl, HF.out⟩
        | true =>
          cases t3 with
          | false =>
            cases t6 with
            | false =>
              go_wp2_with fail
              refine (HROT.out (by simp) (by simp)).mono ?_
              rintro e wa ⟨rfl, hra⟩
              have HA1 := Lib.hid hra
              clear hra HROT NROT
              obtain ⟨Z1, HB1⟩ : ∃ Z1, Hid (_ ∧ _ ∧ _) := NS1.out (by simp) _ HA1.out
              clear HA1 HS1 NS1
              have HF := Lib.hid (NS2.out (by simp) _ Z1 HB1.out.1 HB1.out.2.1 HB1.out.2.2)
              clear HB1 HS2 NS2
              go_wp2_with fail
              go_end0
              exact ⟨rfl, HF.out⟩
            | true =>
              go_wp2_with fail
              refine (HROT.out (by simp) (by simp)).mono ?_
              rintro e wa ⟨rfl, hra⟩
              have HA1 := Lib.hid hra
              clear hra HROT NROT
              obtain ⟨Z1, HB1⟩ : ∃ Z1, Hid (_ ∧ _ ∧ _) := NS1.out (by simp) _ HA1.out
              clear HA1 HS1 NS1
              go_wp2_with fail
              refine (HS2.out (by simp) (by simp) _ Z1 HB1.out.1 HB1.out.2.1 HB1.out.2.2).mono ?_
              rintro e wd ⟨rfl, hf⟩
              have HF := Lib.hid hf
              clear hf HB1 HS2 NS2
              go_wp2_with fail
              go_end0
              exact ⟨rfl, HF.out⟩
          | true =>
            cases t6 with
            | false =>
              go_wp2_with fail
              refine (HROT.out (by simp) (by simp)).mono ?_
              rintro e wa ⟨rfl, hra⟩
              have HA1 := Lib.hid hra
              clear hra HROT NROT
              go_wp2_with fail
              refine (HS1.out (by simp) (by simp) _ HA1.out).mono ?_
              rintro e wb ⟨rfl, Z1, p1, s1, hrb⟩
              have HB1 := Lib.hid (show _ ∧ _ ∧ _ from ⟨p1, s1, hrb⟩)
              clear p1 s1 hrb HA1 HS1 NS1
              have HF := Lib.hid (NS2.out (by simp) _ Z1 HB1.out.1 HB1.out.2.1 HB1.out.2.2)
              clear HB1 HS2 NS2
              go_wp2_with fail
              go_end0
              exact ⟨rfl, HF.out⟩
            | true =>
              go_wp2_with fail
              refine (HROT.out (by simp) (by simp)).mono ?_
              rintro e wa ⟨rfl, hra⟩
              have HA1 := Lib.hid hra
              clear hra HROT NROT
              go_wp2_with fail
              refine (HS1.out (by simp) (by simp) _ HA1.out).mono ?_
              rintro e wb ⟨rfl, Z1, p1, s1, hrb⟩
              have HB1 := Lib.hid (show _ ∧ _ ∧ _ from ⟨p1, s1, hrb⟩)
              clear p1 s1 hrb HA1 HS1 NS1
              go_wp2_with fail
              refine (HS2.out (by simp) (by simp) _ Z1 HB1.out.1 HB1.out.2.1 HB1.out.2.2).mono ?_
              rintro e wd ⟨rfl, hf⟩
              have HF := Lib.hid hf
              clear hf HB1 HS2 NS2
              go_wp2_with fail
              go_end0
              exact ⟨rfl, HF.out⟩

/-- Merging. -/
theorem symJ (g cap : Nat) (w : World) (N : Nat) (hN2 : N ≤ 1048576) : ∀ n, SymC g cap w N n
  | 0 => fun A X Y B W a m b h0 hx => by omega
  | n + 1 => by
    have ih := symJ g cap w N hN2 n
    intro A X Y B W a m b h0 hx hy sx sy ha hm hb hN h
    rcases Nat.lt_or_ge (X.length + Y.length) (n + 1) with q | q
    · exact ih A X Y B W a m b (by omega) hx hy sx sy ha hm hb hN h
    · by_cases h1 : X.length = 1
      · obtain ⟨x, rfl⟩ : ∃ x, X = [x] := by
          match X, h1 with
          | [x], _ => exact ⟨x, rfl⟩
        exact (sym1J g cap w A x Y B W a m b N ha hm (by simpa using hb) (by simp only [List.length_append, List.length_cons]; simp at hN; omega) hN2 sy h).mono fun e w' q => q
      · by_cases h2 : Y.length = 1
        · obtain ⟨y, rfl⟩ : ∃ y, Y = [y] := by
            match Y, h2 with
            | [y], _ => exact ⟨y, rfl⟩
          exact (sym2J g cap w A X y B W a m b N ha hm (by simpa using hb) (by omega) (by simp only [List.length_append, List.length_cons]; simp at hN; omega) hN2 sx h).mono fun e w' q => q
        · exact sym3J g cap w A X Y B W a m b N n ih (by omega) ha hm hb (by omega) (by omega) hN hN2 sx sy h
end Go.Proofs.YthkeigljiinlbaaGreat
