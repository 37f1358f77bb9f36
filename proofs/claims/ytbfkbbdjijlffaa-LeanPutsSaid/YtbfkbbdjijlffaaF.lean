/- Plain laws of leans, and what is told of a list of puts that came in. -/
import Derived.Test.YtbfkbbdjijlffaaE
namespace Go.Proofs.Ytbfkbbdjijlffaa
open Go.RowKit Fl

/-- What one put adds. -/
def gx (v n : Int) : Int := if bigB n then 0 else rotX v n 0
def gy (v n : Int) : Int := if bigB n then 0 else rotY v n 0

theorem g_bd (v n : Int) : -1048576 ≤ gx v n ∧ gx v n ≤ 1048576 ∧ -1048576 ≤ gy v n ∧ gy v n ≤ 1048576 := by
  unfold gx gy
  cases hb : bigB n with
  | true => simp
  | false =>
    simp only [bigB, decide_eq_false_iff_not] at hb
    simp only [Bool.false_eq_true, if_false]
    unfold rotX rotY
    split <;> (try split) <;> (try split) <;> omega

theorem put_plain {X Y : Int} (v n : Int) (h : -1099511627776 ≤ X ∧ X ≤ 1099511627776 ∧ -1099511627776 ≤ Y ∧ Y ≤ 1099511627776) :
    putX X Y v n = X + gx v n ∧ putY X Y v n = Y + gy v n := by
  have hg := g_bd v n
  unfold putX putY gx gy at *
  cases hb : bigB n with
  | true => simp
  | false =>
    rw [hb] at hg
    simp only [Bool.false_eq_true, if_false] at *
    have hf : farB (X + rotX v n 0) (Y + rotY v n 0) = false := by simp only [farB, decide_eq_false_iff_not]; omega
    unfold tkX tkY
    rw [hf]
    simp

theorem put_err {X Y : Int} (v n : Int) (h : -1099511627776 ≤ X ∧ X ≤ 1099511627776 ∧ -1099511627776 ≤ Y ∧ Y ≤ 1099511627776) (hb : bigB n = false) : putE X Y v n = 0 := by
  have hg := g_bd v n
  unfold putE gx gy at *
  rw [hb] at hg ⊢
  simp only [Bool.false_eq_true, if_false] at *
  have hf : farB (X + rotX v n 0) (Y + rotY v n 0) = false := by simp only [farB, decide_eq_false_iff_not]; omega
  unfold tkE
  rw [hf]
  simp

theorem rot_comp (v q x y : Int) : rotX (v + q) x y = rotX q (rotX v x y) (rotY v x y) ∧ rotY (v + q) x y = rotY q (rotX v x y) (rotY v x y) := by
  obtain h | h | h | h : v % 4 = 0 ∨ v % 4 = 1 ∨ v % 4 = 2 ∨ v % 4 = 3 := by omega
  all_goals
    obtain g | g | g | g : q % 4 = 0 ∨ q % 4 = 1 ∨ q % 4 = 2 ∨ q % 4 = 3 := by omega
  all_goals
    have e : (v + q) % 4 = (v % 4 + q % 4) % 4 := by omega
    rw [h, g] at e
    simp only [rotX, rotY, h, g, e]
    simp

theorem rot_sum (q X Y U V : Int) : rotX q (X + U) (Y + V) = rotX q X Y + rotX q U V ∧ rotY q (X + U) (Y + V) = rotY q X Y + rotY q U V := by
  unfold rotX rotY
  split
  · omega
  · split
    · omega
    · split <;> omega

theorem g_comp (v q n : Int) : gx (v + q) n = rotX q (gx v n) (gy v n) ∧ gy (v + q) n = rotY q (gx v n) (gy v n) := by
  unfold gx gy
  cases bigB n with
  | true => simp [rotX, rotY]
  | false => simpa using rot_comp v q n 0

/-- The numbers of a list of puts that came in: element i is (V i, N i). -/
def Puts (w : World) (a : Option Addr) (len : Nat) (V N : Nat → Int) : Prop :=
  ∀ i, i < len → ∃ b off, a = some ⟨b, off, none⟩ ∧ w.cell? ⟨b, off + i * 2, none⟩ = some (.int .i64 (V i)) ∧ w.cell? ⟨b, off + i * 2 + 1, none⟩ = some (.int .i64 (N i)) ∧ -9223372036854775808 ≤ V i ∧ V i ≤ 9223372036854775807

theorem small_of {X Y : Int} (h : -1099511627776 ≤ X ∧ X ≤ 1099511627776 ∧ -1099511627776 ≤ Y ∧ Y ≤ 1099511627776) : Small X Y := by unfold Small; omega

def SpinsRel (w : World) (ba bb len : Nat) (q : Int) (i : Value) (wr : World) : Prop :=
  ∃ k : Nat, k ≤ len ∧ i = .int .i64 k ∧ ∃ X Y, At wr ba X Y ∧ At wr bb (rotX q X Y) (rotY q X Y) ∧ (-1048576 * (k : Int) ≤ X ∧ X ≤ 1048576 * k ∧ -1048576 * (k : Int) ≤ Y ∧ Y ≤ 1048576 * k) ∧ Kept (fun _ => False) w wr

set_option maxHeartbeats 1000000 in
theorem spins_law (w : World) (a : Option Addr) (len cap : Nat) (V N : Nat → Int) (q : Int) (hp : Puts w a len V N) (hl : len ≤ maxLen) (hq : 0 ≤ q ∧ q ≤ 255) :
    Calls Try.prog 3 #[.slice a len cap, .int .u8 q] w (PostV (.bool true) w) := by
  unfold maxLen at hl
  by_cases hlen : 1000 < len
  · go_enter Try.func3, Try.ntmps3
    go_wp2_with (go_at_call 6; refine (live_any _).mono ?_; rintro e w' ⟨rfl, k⟩)
    go_ret
    exact ⟨rfl, k⟩
  · go_enter Try.func3, Try.ntmps3
    go_wp2_with fail
    refine (new_any _).mono ?_
    rintro e w1 ⟨rfl, a1, k1, z1⟩
    have Z1 := Lib.hid z1
    clear z1
    go_wp2_with fail
    refine (new_any _).mono ?_
    rintro e w2 ⟨rfl, a2, k2, z2⟩
    have Z2 := Lib.hid z2
    clear z2
    go_wp2_with fail
    have hne : w.heap.size ≠ w1.heap.size := by have := Z1.out; omega
    go_loopw [7] (SpinsRel w w.heap.size w1.heap.size len q) (fun i _ => len - (intOf i).toNat)
    case atStart =>
      exact ⟨0, Nat.zero_le _, rfl, 0, 0, a1.kept k2 (fun h => h), by simpa [rotX, rotY] using a2, by omega, k1.trans k2⟩
    case round =>
      obtain ⟨k, hk, rfl, X, Y, b1, b2, hb, kr⟩ := hrel
      by_cases hlt : k < len
      · obtain ⟨b, off, rfl, c0, c1, hv1, hv2⟩ := hp k hlt
        have c0' := kr.cell c0 (fun h => h)
        have c1' := kr.cell c1 (fun h => h)
        have hbl : b < w.heap.size := World.block_lt_of_cell? _ _ c0
        have hw12 : w.heap.size < w1.heap.size := by have := Z1.out; omega
        have ht : -4611686018427387904 ≤ (V k).tdiv 2 ∧ (V k).tdiv 2 ≤ 4611686018427387904 := by
          have hsg : Int.sign 2 = 1 := rfl
          rw [Int.tdiv_eq_ediv, hsg]; split <;> omega
        obtain ⟨ht1, ht2⟩ := ht
        have hX : -1099511627776 ≤ X ∧ X ≤ 1099511627776 ∧ -1099511627776 ≤ Y ∧ Y ≤ 1099511627776 := by omega
        obtain ⟨p1, p2⟩ := put_plain ((V k).tdiv 2) (N k) hX
        have hR : -1099511627776 ≤ rotX q X Y ∧ rotX q X Y ≤ 1099511627776 ∧ -1099511627776 ≤ rotY q X Y ∧ rotY q X Y ≤ 1099511627776 := by
          unfold rotX rotY; split <;> (try split) <;> (try split) <;> omega
        obtain ⟨p3, p4⟩ := put_plain ((V k).tdiv 2 + q) (N k) hR
        obtain ⟨s1, s2⟩ := rot_sum q X Y (gx ((V k).tdiv 2) (N k)) (gy ((V k).tdiv 2) (N k))
        obtain ⟨g1, g2⟩ := g_comp ((V k).tdiv 2) q (N k)
        rw [g1, ← s1] at p3
        rw [g2, ← s2] at p4
        have hg := g_bd ((V k).tdiv 2) (N k)
        have P1 := Lib.hid p1
        have P2 := Lib.hid p2
        have P3 := Lib.hid p3
        have P4 := Lib.hid p4
        clear c0 c1 p1 p2 p3 p4 s1 s2 g1 g2
        go_wp2_with fail
        refine (put_any _ _ _ _ _ _ b1 (small_of hX)).mono ?_
        rintro e w3 ⟨rfl, b3, k3, z3⟩
        rw [P1.out, P2.out] at b3
        have c1'' := k3.cell c1' (by show ¬ b = w.heap.size; omega)
        have b4 := b2.kept k3 (by show ¬ w1.heap.size = w.heap.size; omega)
        clear z3 c1' b2
        go_wp2_with fail
        refine (put_any _ _ _ _ _ _ b4 (small_of hR)).mono ?_
        rintro e w4 ⟨rfl, b5, k4, z4⟩
        rw [P3.out, P4.out] at b5
        have b6 := b3.kept k4 (by show ¬ w.heap.size = w1.heap.size; omega)
        clear z4 b3
        go_wp2_with fail
        go_roundw
        case rel =>
          refine ⟨k + 1, by omega, by go_num, _, _, b6, b5, ?_, (kr.into (Nat.le_refl _) k3).into (by omega) k4⟩
          have : ((k + 1 : Nat) : Int) = k + 1 := by omega
          rw [this]
          omega
        case measure => simp [intOf]; omega
      · have hX : -1099511627776 ≤ X ∧ X ≤ 1099511627776 ∧ -1099511627776 ≤ Y ∧ Y ≤ 1099511627776 := by omega
        clear hb
        go_wp2_with fail
        refine (spun_at _ _ _ _ q b1).mono ?_
        rintro e w3 ⟨rfl, b3, k3, z3⟩
        have Z3 := Lib.hid z3
        clear z3
        go_wp2_with fail
        refine (parts_at _ _ _ _ b3).mono ?_
        rintro e w' ⟨rfl, rfl⟩
        go_wp2_with fail
        refine (parts_at _ _ _ _ (b2.kept k3 (fun h => h))).mono ?_
        rintro e w' ⟨rfl, rfl⟩
        go_wp2_with fail
        refine (spun_at _ _ _ _ 4 b3).mono ?_
        have e1 : ∀ x y, rotX 4 x y = x := fun x y => by simp [rotX]
        have e2 : ∀ x y, rotY 4 x y = y := fun x y => by simp [rotY]
        rw [e1, e2]
        rintro e w4 ⟨rfl, b4, k4, z4⟩
        clear e1 e2 z4
        go_wp2_with fail
        refine (parts_at _ _ _ _ b4).mono ?_
        rintro e w' ⟨rfl, rfl⟩
        go_wp2_with fail
        refine (live_any _).mono ?_
        rintro e w5 ⟨rfl, k5⟩
        go_wp2_with fail
        go_ret
        exact ⟨rfl, ((kr.trans k3).trans k4).trans k5⟩
end Go.Proofs.Ytbfkbbdjijlffaa
