/- The walk of LeanUndo. -/
import Derived.Test.YtbfkbbdjijlffaaF
namespace Go.Proofs.Ytbfkbbdjijlffaa
open Go.RowKit Fl

theorem At.drew {w : World} {b : Nat} {X Y : Int} (h : At w b X Y) : At w.drew b X Y := h.kept ((Kept.refl (fun _ => False) w).drew) (fun h => h)

/-- Not too far by a long way. -/
def Near (X Y : Int) : Prop := -1099511627776 ≤ X ∧ X ≤ 1099511627776 ∧ -1099511627776 ≤ Y ∧ Y ≤ 1099511627776

theorem put_sum (w : World) (b : Nat) (X Y v n : Int) (h : At w b X Y) (hn : Near X Y) :
    Calls Try.prog 8 #[.pointer (some ⟨b, 0, none⟩), .int .i64 v, .int .i64 n] w (PostAt b (.int .i64 (putE X Y v n)) (X + gx v n) (Y + gy v n) w) := by
  obtain ⟨p1, p2⟩ := put_plain v n hn
  have := put_any w b X Y v n h (small_of hn)
  rwa [p1, p2] at this

theorem g_neg (v n : Int) : gx v (-n) = -gx v n ∧ gy v (-n) = -gy v n := by
  have hb : bigB (-n) = bigB n := by
    unfold bigB
    congr 1
    apply propext
    omega
  unfold gx gy
  rw [hb]
  cases bigB n with
  | true => simp
  | false =>
    simp only [Bool.false_eq_true, if_false]
    unfold rotX rotY
    split
    · simp
    · split
      · simp
      · split <;> simp

def sumX (V N : Nat → Int) : Nat → Int
  | 0 => 0
  | k + 1 => sumX V N k + gx (V k) (N k)
def sumY (V N : Nat → Int) : Nat → Int
  | 0 => 0
  | k + 1 => sumY V N k + gy (V k) (N k)

theorem sum_bd (V N : Nat → Int) : ∀ k : Nat, -1048576 * (k : Int) ≤ sumX V N k ∧ sumX V N k ≤ 1048576 * k ∧ -1048576 * (k : Int) ≤ sumY V N k ∧ sumY V N k ≤ 1048576 * k
  | 0 => by simp [sumX, sumY]
  | k + 1 => by
    have := sum_bd V N k
    have := g_bd (V k) (N k)
    simp only [sumX, sumY]
    have : ((k + 1 : Nat) : Int) = k + 1 := by omega
    rw [this]
    omega

def Undo1 (w : World) (ba bb bc len : Nat) (V N : Nat → Int) (i : Value) (wr : World) : Prop :=
  ∃ k : Nat, k ≤ len ∧ i = .int .i64 k ∧ At wr ba (sumX V N k) (sumY V N k) ∧ At wr bb 0 0 ∧ At wr bc (sumX V N k) (sumY V N k) ∧ Kept (fun _ => False) w wr

def Undo2 (w : World) (ba bb bc len : Nat) (X Y : Int) (V N : Nat → Int) (i : Value) (wr : World) : Prop :=
  ∃ k : Nat, k ≤ len ∧ i = .int .i64 k ∧ At wr ba X Y ∧ At wr bb (sumX V N k) (sumY V N k) ∧ At wr bc (X + sumX V N k) (Y + sumY V N k) ∧ Kept (fun _ => False) w wr

def Undo3 (w : World) (ba bb len : Nat) (X Y : Int) (V N : Nat → Int) (i : Value) (wr : World) : Prop :=
  ∃ k : Nat, k ≤ len ∧ i = .int .i64 k ∧ At wr ba (X + (sumX V N len - sumX V N k)) (Y + (sumY V N len - sumY V N k)) ∧ At wr bb (sumX V N len) (sumY V N len) ∧ Kept (fun _ => False) w wr

set_option maxRecDepth 100000 in
set_option maxHeartbeats 2000000 in
theorem undo_law (w : World) (a a' : Option Addr) (len cap len' cap' : Nat) (V N V' N' : Nat → Int) (hp : Puts w a len V N) (hp' : Puts w a' len' V' N') (hl : len ≤ maxLen) (hl' : len' ≤ maxLen) :
    Calls Try.prog 5 #[.slice a len cap, .slice a' len' cap'] w (PostV (.bool true) w) := by
  unfold maxLen at hl hl'
  by_cases hlen : 1000 < len
  · go_enter Try.func5, Try.ntmps5
    go_wp2_with (go_at_call 6; refine (live_any _).mono ?_; rintro e w' ⟨rfl, k⟩)
    go_ret
    exact ⟨rfl, k⟩
  by_cases hlen' : 1000 < len'
  · go_enter Try.func5, Try.ntmps5
    go_wp2_with (go_at_call 6; refine (live_any _).mono ?_; rintro e w' ⟨rfl, k⟩)
    go_ret
    exact ⟨rfl, k⟩
  go_enter Try.func5, Try.ntmps5
  go_wp2_with fail
  refine (new_any _).mono ?_
  rintro e w1 ⟨rfl, a1, k1, z1⟩
  have Z1 := Lib.hid z1
  clear z1
  go_wp2_with fail
  refine (new_any _).mono ?_
  rintro e w2 ⟨rfl, a2, k2, z2⟩
  have Z2 := Lib.hid z2
  clear z2
  go_wp2_with fail
  refine (new_any _).mono ?_
  rintro e w3 ⟨rfl, a3, k3, z3⟩
  have Z3 := Lib.hid z3
  clear z3
  have a1' := (a1.kept k2 (fun h => h)).kept k3 (fun h => h)
  have a2' := a2.kept k3 (fun h => h)
  have kk := (k1.trans k2).trans k3
  have l1 : w.heap.size < w1.heap.size := by have := Z1.out; omega
  have l2 : w1.heap.size < w2.heap.size := by have := Z2.out; omega
  clear a1 a2 k1 k2 k3
  generalize hb1 : w1.heap.size = bb at *
  generalize hb2 : w2.heap.size = bc at *
  clear Z1 Z2 Z3 hb1 hb2
  go_wp2_with fail
  go_loopw [8] (Undo1 w w.heap.size bb bc len V N) (fun i _ => len - (intOf i).toNat)
  case atStart =>
    exact ⟨0, Nat.zero_le _, rfl, a1', a2', a3, kk⟩
  case round =>
    clear a1' a2' a3 kk
    obtain ⟨k, hk, rfl, b1, b2, b3, kr⟩ := hrel
    have hs := sum_bd V N k
    have hN : Near (sumX V N k) (sumY V N k) := by unfold Near; omega
    by_cases hlt : k < len
    · obtain ⟨b, off, rfl, c0, c1, _, _⟩ := hp k hlt
      have hbl : b < w.heap.size := World.block_lt_of_cell? _ _ c0
      have c0' := kr.cell c0 (fun h => h)
      have c1' := kr.cell c1 (fun h => h)
      clear c0 c1
      go_wp2_with fail
      go_still_tail 11, (by kernel_rfl)
      change wpList _ _ _ _ _ wr.drew
      go_wp2_with fail
      refine (put_sum _ _ _ _ _ _ b1.drew hN).mono ?_
      rintro e w4 ⟨rfl, b4, k4, z4⟩
      have k4' := (kr.drew).into (Nat.le_refl _) k4
      have c0'' := k4.cell (w := wr.drew) (p := ⟨b, off + k * 2, none⟩) c0' (by show ¬ b = w.heap.size; omega)
      have c1'' := k4.cell (w := wr.drew) (p := ⟨b, off + k * 2 + 1, none⟩) c1' (by show ¬ b = w.heap.size; omega)
      have b2' := b2.drew.kept k4 (by show ¬ bb = w.heap.size; omega)
      have b3' := b3.drew.kept k4 (by show ¬ bc = w.heap.size; omega)
      clear z4 c0' c1' b2 b3 b1 k4
      go_wp2_with fail
      go_still_tail 11, (by kernel_rfl)
      change wpList _ _ _ _ _ w4.drew
      go_wp2_with fail
      refine (put_sum _ _ _ _ _ _ b3'.drew hN).mono ?_
      rintro e w5 ⟨rfl, b5, k5, z5⟩
      have k5' := (k4'.drew).into (show w.heap.size ≤ bc by omega) k5
      have b4' := b4.drew.kept k5 (by show ¬ w.heap.size = bc; omega)
      have b2'' := b2'.drew.kept k5 (by show ¬ bb = bc; omega)
      clear z5 c0'' c1'' b2' b3' b4 k5
      go_wp2_with fail
      go_roundw
      case rel => exact ⟨k + 1, by omega, by go_num, b4', b2'', b5, k5'⟩
      case measure => simp [intOf]; omega
    · have hkl : k = len := by omega
      subst hkl
      generalize hXL : sumX V N k = XL at *
      generalize hYL : sumY V N k = YL at *
      clear hXL hYL hp hlt
      go_wp2_with fail
      refine (parts_at _ _ _ _ b1).mono ?_
      rintro e w' ⟨rfl, rfl⟩
      go_wp2_with fail
      go_loopw [11] (Undo2 w w.heap.size bb bc len' XL YL V' N') (fun i _ => len' - (intOf i).toNat)
      case atStart =>
        exact ⟨0, Nat.zero_le _, rfl, b1, by simpa [sumX, sumY] using b2, by simpa [sumX, sumY] using b3, kr⟩
      case round =>
        clear b1 b2 b3 kr hk
        obtain ⟨m, hm, rfl, b1, b2, b3, kr⟩ := hrel
        have hs' := sum_bd V' N' m
        have hN1 : Near (sumX V' N' m) (sumY V' N' m) := by unfold Near; omega
        have hN2 : Near (XL + sumX V' N' m) (YL + sumY V' N' m) := by unfold Near; omega
        by_cases hlt : m < len'
        · obtain ⟨b, off, rfl, c0, c1, _, _⟩ := hp' m hlt
          have hbl : b < w.heap.size := World.block_lt_of_cell? _ _ c0
          have c0' := kr.cell c0 (fun h => h)
          have c1' := kr.cell c1 (fun h => h)
          clear c0 c1 hN hs
          go_wp2_with fail
          go_still_tail 11, (by kernel_rfl)
          change wpList _ _ _ _ _ (World.drew _)
          go_wp2_with fail
          refine (put_sum _ _ _ _ _ _ b2.drew hN1).mono ?_
          rintro e w4 ⟨rfl, b4, k4, z4⟩
          have k4' := (kr.drew).into (show w.heap.size ≤ bb by omega) k4
          have c0'' := k4.cell (p := ⟨b, off + m * 2, none⟩) c0' (by show ¬ b = bb; omega)
          have c1'' := k4.cell (p := ⟨b, off + m * 2 + 1, none⟩) c1' (by show ¬ b = bb; omega)
          have b1' := b1.drew.kept k4 (by show ¬ w.heap.size = bb; omega)
          have b3' := b3.drew.kept k4 (by show ¬ bc = bb; omega)
          clear z4 c0' c1' b2 b3 b1 k4
          go_wp2_with fail
          go_still_tail 11, (by kernel_rfl)
          change wpList _ _ _ _ _ w4.drew
          go_wp2_with fail
          refine (put_sum _ _ _ _ _ _ b3'.drew hN2).mono ?_
          rintro e w5 ⟨rfl, b5, k5, z5⟩
          have k5' := (k4'.drew).into (show w.heap.size ≤ bc by omega) k5
          have b1'' := b1'.drew.kept k5 (by show ¬ w.heap.size = bc; omega)
          have b4' := b4.drew.kept k5 (by show ¬ bb = bc; omega)
          clear z5 c0'' c1'' b1' b3' b4 k5
          go_wp2_with fail
          go_roundw
          case rel => exact ⟨m + 1, by omega, by go_num, b1'', b4', by simpa [sumX, sumY, Int.add_assoc] using b5, k5'⟩
          case measure => simp [intOf]; omega
        · have hml : m = len' := by omega
          subst hml
          have hjX : tkX XL YL (sumX V' N' m) (sumY V' N' m) = XL + sumX V' N' m ∧ tkY XL YL (sumX V' N' m) (sumY V' N' m) = YL + sumY V' N' m ∧ tkE XL YL (sumX V' N' m) (sumY V' N' m) = 0 := by
            have hf : farB (XL + sumX V' N' m) (YL + sumY V' N' m) = false := by simp only [farB, decide_eq_false_iff_not]; omega
            unfold tkX tkY tkE
            rw [hf]; simp
          have J := Lib.hid hjX
          clear hjX hlt hm
          go_wp2_with fail
          refine (parts_at _ _ _ _ b2).mono ?_
          rintro e w' ⟨rfl, rfl⟩
          go_wp2_with fail
          refine (join_at _ _ _ _ _ _ _ b1 b2 (small_of hN) (small_of hN1)).mono ?_
          rw [J.out.1, J.out.2.1, J.out.2.2]
          rintro e w4 ⟨rfl, b4, k4, z4⟩
          have k4' := kr.into (Nat.le_refl _) k4
          have b2' := b2.kept k4 (by show ¬ bb = w.heap.size; omega)
          have b3' := b3.kept k4 (by show ¬ bc = w.heap.size; omega)
          clear z4 b1 b2 b3 kr k4 J
          generalize hSX : sumX V' N' m = SX at *
          generalize hSY : sumY V' N' m = SY at *
          have HSX := Lib.hid hSX
          have HSY := Lib.hid hSY
          clear hSX hSY
          go_wp2_with fail
          refine (parts_at _ _ _ _ b4).mono ?_
          rintro e w' ⟨rfl, rfl⟩
          go_wp2_with fail
          refine (parts_at _ _ _ _ b3').mono ?_
          rintro e w' ⟨rfl, rfl⟩
          have hd1 : XL + SX - XL = SX := by omega
          have hd2 : YL + SY - YL = SY := by omega
          go_wp2_with fail
          clear hd1 hd2
          go_loopw [18] (Undo3 w w.heap.size bb m XL YL V' N') (fun i _ => m - (intOf i).toNat)
          case atStart =>
            refine ⟨0, Nat.zero_le _, rfl, ?_, ?_, k4'⟩
            · rw [HSX.out, HSY.out]; simpa [sumX, sumY] using b4
            · rw [HSX.out, HSY.out]; exact b2'
          case round =>
            clear b4 b2' b3' k4'
            obtain ⟨j, hj, rfl, b1, b2, kr⟩ := hrel
            have hsj := sum_bd V' N' j
            rw [HSX.out, HSY.out] at b1 b2
            by_cases hlt : j < m
            · obtain ⟨b, off, rfl, c0, c1, _, _⟩ := hp' j hlt
              have hbl : b < w.heap.size := World.block_lt_of_cell? _ _ c0
              have c0' := kr.cell c0 (fun h => h)
              have c1' := kr.cell c1 (fun h => h)
              have hNj : Near (XL + (SX - sumX V' N' j)) (YL + (SY - sumY V' N' j)) := by unfold Near; omega
              clear c0 c1 hN hs hN1 hN2
              cases hbig : bigB (N' j) with
              | true =>
                have hgx : sumX V' N' (j + 1) = sumX V' N' j := by simp [sumX, gx, hbig]
                have hgy : sumY V' N' (j + 1) = sumY V' N' j := by simp [sumY, gy, hbig]
                have G := Lib.hid (And.intro hgx hgy)
                simp only [bigB, decide_eq_true_eq] at hbig
                clear hgx hgy
                by_cases hn : N' j ≤ 1048576
                · have hn2 : ¬ -1048576 ≤ N' j := by omega
                  have hd : decide (-1048576 ≤ N' j) = false := by simpa using hn2
                  clear hbig
                  go_wp2_with fail
                  go_quiet (fail)
                  go_wp2_with fail
                  go_roundw
                  case rel =>
                    exact ⟨j + 1, by omega, by go_num, by rw [HSX.out, HSY.out, G.out.1, G.out.2]; exact b1.kept ((Kept.refl (fun _ => False) _).drewN _) (fun h => h), by rw [HSX.out, HSY.out]; exact b2.kept ((Kept.refl (fun _ => False) _).drewN _) (fun h => h), kr.drewN _⟩
                  case measure => simp [intOf]; omega
                · have hd : decide (N' j ≤ 1048576) = false := by simpa using hn
                  clear hbig
                  go_wp2_with fail
                  go_quiet (fail)
                  go_wp2_with fail
                  go_roundw
                  case rel =>
                    exact ⟨j + 1, by omega, by go_num, by rw [HSX.out, HSY.out, G.out.1, G.out.2]; exact b1.kept ((Kept.refl (fun _ => False) _).drewN _) (fun h => h), by rw [HSX.out, HSY.out]; exact b2.kept ((Kept.refl (fun _ => False) _).drewN _) (fun h => h), kr.drewN _⟩
                  case measure => simp [intOf]; omega
              | false =>
                have hbn : bigB (-N' j) = false := by
                  simp only [bigB, decide_eq_false_iff_not] at *
                  omega
                have hpe := put_err (V' j) (-N' j) hNj hbn
                obtain ⟨hg1, hg2⟩ := g_neg (V' j) (N' j)
                have G := Lib.hid (And.intro hpe (And.intro hg1 hg2))
                simp only [bigB, decide_eq_false_iff_not] at hbig
                have hn1 : N' j ≤ 1048576 := by omega
                have hn2 : -1048576 ≤ N' j := by omega
                clear hbig hbn hpe hg1 hg2
                go_wp2_with fail
                go_still_tail 27, (by kernel_rfl)
                change wpList _ _ _ _ _ (World.drew _)
                go_wp2_with fail
                refine (put_sum _ _ _ _ _ _ b1.drew hNj).mono ?_
                rw [G.out.1, G.out.2.1, G.out.2.2]
                rintro e w5 ⟨rfl, b3, k5, z5⟩
                have k5' := (kr.drew).into (Nat.le_refl _) k5
                have b2' := b2.drew.kept k5 (by show ¬ bb = w.heap.size; omega)
                clear z5 b1 b2 k5 kr
                go_wp2_with fail
                go_roundw
                case rel =>
                  refine ⟨j + 1, by omega, by go_num, ?_, by rw [HSX.out, HSY.out]; exact b2', k5'⟩
                  rw [HSX.out, HSY.out]
                  simp only [sumX, sumY]
                  have q1 : XL + (SX - (sumX V' N' j + gx (V' j) (N' j))) = XL + (SX - sumX V' N' j) + -gx (V' j) (N' j) := by omega
                  have q2 : YL + (SY - (sumY V' N' j + gy (V' j) (N' j))) = YL + (SY - sumY V' N' j) + -gy (V' j) (N' j) := by omega
                  rw [q1, q2]
                  exact b3
                case measure => simp [intOf]; omega
            · have hjl : j = m := by omega
              subst hjl
              rw [HSX.out, HSY.out] at b1
              have q1 : XL + (SX - SX) = XL := by omega
              have q2 : YL + (SY - SY) = YL := by omega
              rw [q1, q2] at b1
              clear q1 q2 hlt hj
              go_wp2_with fail
              refine (parts_at _ _ _ _ b1).mono ?_
              rintro e w' ⟨rfl, rfl⟩
              go_wp2_with fail
              refine (parts_at _ _ _ _ b2).mono ?_
              rintro e w' ⟨rfl, rfl⟩
              go_wp2_with fail
              refine (live_any _).mono ?_
              rintro e w5 ⟨rfl, k5⟩
              go_wp2_with fail
              go_ret
              exact ⟨rfl, kr.trans k5⟩
end Go.Proofs.Ytbfkbbdjijlffaa
