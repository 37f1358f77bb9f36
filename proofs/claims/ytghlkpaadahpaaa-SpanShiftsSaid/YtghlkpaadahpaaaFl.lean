/- Whole numbers below 2^53 as doubles: exact. Plain: no program in sight. -/
import Derived.Laws.ComplexArith
namespace Go.Proofs.Ytghlkpaadahpaaa.Fl
open Ieee

theorem log2_scale (m k : Nat) (hm : m ≠ 0) : (m * 2 ^ k).log2 = m.log2 + k := by
  have h1 := (Nat.le_log2 hm (k := m.log2)).1 (Nat.le_refl _)
  have h2 := (Nat.log2_lt hm (k := m.log2 + 1)).1 (Nat.lt_succ_self _)
  have hp : 0 < 2 ^ k := Nat.two_pow_pos k
  have hne : m * 2 ^ k ≠ 0 := by have := Nat.mul_pos (Nat.pos_of_ne_zero hm) hp; omega
  apply Nat.le_antisymm
  · apply Nat.le_of_lt_succ
    rw [Nat.log2_lt hne]
    calc m * 2 ^ k < 2 ^ (m.log2 + 1) * 2 ^ k := Nat.mul_lt_mul_of_pos_right h2 hp
      _ = 2 ^ (m.log2 + k + 1) := by rw [← Nat.pow_add]; congr 1; omega
  · rw [Nat.le_log2 hne, Nat.pow_add]
    exact Nat.mul_le_mul_right _ h1

theorem cut_exact (way : Toward) (hw : way = .even ∨ way = .zero) (neg : Bool) (x d : Nat) : way.cut neg (x * 2 ^ d) d = x := by
  have key : ∀ g, 0 < g → (x * 2 ^ d) % g = 0 → (x * 2 ^ d) / g = x → way.cut neg (x * 2 ^ d) d = x ∨ g ≠ 1 <<< min d ((x * 2 ^ d).log2 + 2) := by
    intro g hg h1 h2
    by_cases e : g = 1 <<< min d ((x * 2 ^ d).log2 + 2)
    · left
      unfold Toward.cut
      simp only [← e, h1, h2]
      rcases hw with rfl | rfl
      · have : ¬ g < 2 * 0 := by omega
        have h3 : (g == 2 * 0) = false := by simp; omega
        simp [h3]
      · simp
    · right; exact e
  by_cases hx : x = 0
  · subst hx
    rcases key (1 <<< min d ((0 * 2 ^ d).log2 + 2)) (by rw [Nat.shiftLeft_eq, Nat.one_mul]; exact Nat.two_pow_pos _) (by simp) (by simp) with h | h
    · exact h
    · exact absurd rfl h
  · have hl : min d ((x * 2 ^ d).log2 + 2) = d := by rw [log2_scale x d hx]; omega
    rcases key (2 ^ d) (Nat.two_pow_pos _) (Nat.mul_mod_left _ _) (Nat.mul_div_cancel _ (Nat.two_pow_pos _)) with h | h
    · exact h
    · exact absurd (by rw [hl, Nat.shiftLeft_eq, Nat.one_mul]) h

theorem leastPlace_double : double.leastPlace = -1074 := by decide
theorem binade_double : double.binade = 2 ^ 52 := by decide
theorem infRung_double : double.infRung = 2047 * 2 ^ 52 := by decide
theorem signWeight_double : double.signWeight = 2 ^ 63 := by decide

/-- The rung of a whole number below 2^53. -/
theorem nearest_scale (s : Bool) (m k : Nat) (hm : m ≠ 0) (hb : m < 2 ^ 53) :
    double.nearest s (m * 2 ^ k) (-(k : Int)) = double.word s ((1022 + m.log2) * 2 ^ 52 + m * 2 ^ (52 - m.log2)) := by
  have hL : m.log2 < 53 := (Nat.log2_lt hm).2 hb
  have hp : 0 < 2 ^ k := Nat.two_pow_pos k
  have hne : m * 2 ^ k ≠ 0 := by have := Nat.mul_pos (Nat.pos_of_ne_zero hm) hp; omega
  have h1 := (Nat.le_log2 hm (k := m.log2)).1 (Nat.le_refl _)
  have h2 := (Nat.log2_lt hm (k := m.log2 + 1)).1 (Nat.lt_succ_self _)
  have hlast : max (-(k : Int) + ((m * 2 ^ k).log2 : Int) - (double.fractionBits : Int)) double.leastPlace = (m.log2 : Int) - 52 := by
    rw [log2_scale m k hm, leastPlace_double]
    show max (-(k : Int) + ((m.log2 + k : Nat) : Int) - 52) (-1074) = _
    omega
  have hkept : Toward.even.cut s ((m * 2 ^ k) <<< (-(k : Int) - ((m.log2 : Int) - 52)).toNat) (((m.log2 : Int) - 52) - -(k : Int)).toNat = m * 2 ^ (52 - m.log2) := by
    by_cases hk : k ≤ 52 - m.log2
    · have e1 : (-(k : Int) - ((m.log2 : Int) - 52)).toNat = 52 - m.log2 - k := by omega
      have e2 : (((m.log2 : Int) - 52) - -(k : Int)).toNat = 0 := by omega
      rw [e1, e2, Nat.shiftLeft_eq, Nat.mul_assoc, ← Nat.pow_add]
      have e3 : k + (52 - m.log2 - k) = 52 - m.log2 := by omega
      rw [e3]
      have := cut_exact .even (Or.inl rfl) s (m * 2 ^ (52 - m.log2)) 0
      rwa [Nat.pow_zero, Nat.mul_one] at this
    · have e1 : (-(k : Int) - ((m.log2 : Int) - 52)).toNat = 0 := by omega
      have e2 : (((m.log2 : Int) - 52) - -(k : Int)).toNat = k - (52 - m.log2) := by omega
      rw [e1, e2, Nat.shiftLeft_eq, Nat.pow_zero, Nat.mul_one]
      have e3 : m * 2 ^ k = m * 2 ^ (52 - m.log2) * 2 ^ (k - (52 - m.log2)) := by
        rw [Nat.mul_assoc, ← Nat.pow_add]; congr 2; omega
      rw [e3]
      exact cut_exact .even (Or.inl rfl) s _ _
  have hup : m * 2 ^ (52 - m.log2) < 2 ^ 53 := by
    calc m * 2 ^ (52 - m.log2) < 2 ^ (m.log2 + 1) * 2 ^ (52 - m.log2) := Nat.mul_lt_mul_of_pos_right h2 (Nat.two_pow_pos _)
      _ = 2 ^ 53 := by rw [← Nat.pow_add]; congr 1; omega
  unfold Format.nearest
  rw [if_neg hne]
  simp only [hlast, hkept]
  rw [leastPlace_double, binade_double, infRung_double]
  have e4 : ((m.log2 : Int) - 52 - -1074).toNat = 1022 + m.log2 := by omega
  rw [e4]
  generalize hA : m * 2 ^ (52 - m.log2) = A at *
  have hmin : min ((1022 + m.log2) * 2 ^ 52 + A) (2047 * 2 ^ 52) = (1022 + m.log2) * 2 ^ 52 + A := by
    apply Nat.min_eq_left
    omega
  rw [hmin]

/-- A datum that is a whole number. -/
def DI (d : Datum) (x : Int) : Prop := ∃ (s : Bool) (m k : Nat), d = .number s (m * 2 ^ k) (-(k : Int)) ∧ x = (if s then -(m : Int) else (m : Int))

/-- A double's bits that are a whole number below 2^53. -/
def FI (b : Nat) (x : Int) : Prop := x.natAbs < 2 ^ 53 ∧ ∃ s : Bool, b = double.nearest s x.natAbs 0 ∧ (s = true → x ≤ 0) ∧ (s = false → 0 ≤ x)

theorem write_DI {d : Datum} {x : Int} (h : DI d x) (hx : x.natAbs < 2 ^ 53) : FI (double.write d) x := by
  obtain ⟨s, m, k, rfl, rfl⟩ := h
  have ha : (if s then -(m : Int) else (m : Int)).natAbs = m := by cases s <;> simp
  refine ⟨hx, s, ?_, ?_, ?_⟩
  · rw [ha]; rw [ha] at hx
    show double.nearest s (m * 2 ^ k) (-(k : Int)) = _
    by_cases hm : m = 0
    · subst hm; rw [Nat.zero_mul]; simp [Format.nearest]
    · rw [nearest_scale s m k hm hx]
      have := nearest_scale s m 0 hm hx
      rw [Nat.pow_zero, Nat.mul_one] at this
      rw [← this]; rfl
  · rintro rfl; simp
  · rintro rfl; simp

theorem word_split (s : Bool) (r : Nat) (h : r < 2 ^ 63) : (double.word s r) / double.signWeight % 2 = s.toNat ∧ (double.word s r) % double.signWeight = r := by
  unfold Format.word
  rw [signWeight_double]
  cases s
  · simp; omega
  · simp; omega

theorem read_FI {b : Nat} {x : Int} (h : FI b x) : DI (double.read b) x := by
  obtain ⟨hx, s, rfl, h1, h2⟩ := h
  by_cases hm : x.natAbs = 0
  · have : x = 0 := by omega
    subst this
    obtain ⟨k, hk⟩ : ∃ k : Nat, k = 1074 := ⟨_, rfl⟩
    refine ⟨s, 0, k, ?_, by cases s <;> simp⟩
    rw [Nat.zero_mul]
    subst hk
    cases s <;> decide
  · have e := nearest_scale s x.natAbs 0 hm hx
    rw [Nat.pow_zero, Nat.mul_one] at e
    have e0 : (-((0 : Nat) : Int)) = 0 := by decide
    rw [e0] at e
    rw [e]
    have hL : x.natAbs.log2 < 53 := (Nat.log2_lt hm).2 hx
    have g1 := (Nat.le_log2 hm (k := x.natAbs.log2)).1 (Nat.le_refl _)
    have g2 := (Nat.log2_lt hm (k := x.natAbs.log2 + 1)).1 (Nat.lt_succ_self _)
    have hup : x.natAbs * 2 ^ (52 - x.natAbs.log2) < 2 ^ 53 := by
      calc x.natAbs * 2 ^ (52 - x.natAbs.log2) < 2 ^ (x.natAbs.log2 + 1) * 2 ^ (52 - x.natAbs.log2) := Nat.mul_lt_mul_of_pos_right g2 (Nat.two_pow_pos _)
        _ = 2 ^ 53 := by rw [← Nat.pow_add]; congr 1; omega
    have hlo : 2 ^ 52 ≤ x.natAbs * 2 ^ (52 - x.natAbs.log2) := by
      calc 2 ^ 52 = 2 ^ x.natAbs.log2 * 2 ^ (52 - x.natAbs.log2) := by rw [← Nat.pow_add]; congr 1; omega
        _ ≤ _ := Nat.mul_le_mul_right _ g1
    generalize hM : x.natAbs * 2 ^ (52 - x.natAbs.log2) = M at *
    generalize hLL : x.natAbs.log2 = L at *
    have hr : (1022 + L) * 2 ^ 52 + M < 2 ^ 63 := by omega
    obtain ⟨w1, w2⟩ := word_split s _ hr
    refine ⟨s, x.natAbs, 52 - L, ?_, ?_⟩
    · unfold Format.read
      simp only [w1, w2]
      rw [binade_double, infRung_double, leastPlace_double]
      rw [if_neg (by omega), if_pos (by omega)]
      have q1 : 2 ^ 52 + ((1022 + L) * 2 ^ 52 + M) % 2 ^ 52 = M := by omega
      have q2 : ((1022 + L) * 2 ^ 52 + M) / 2 ^ 52 - 1 = 1022 + L := by omega
      rw [q1, q2, hM]
      have q3 : (s.toNat == 1) = s := by cases s <;> rfl
      rw [q3]
      congr 1
      omega
    · cases s
      · have := h2 rfl; simp; omega
      · have := h1 rfl; simp; omega

theorem opposite_DI {d : Datum} {x : Int} (h : DI d x) : DI d.opposite (-x) := by
  obtain ⟨s, m, k, rfl, rfl⟩ := h
  exact ⟨!s, m, k, rfl, by cases s <;> simp⟩

theorem signed_scale (s : Bool) (m i d : Nat) : signed s (m * 2 ^ i) d = (if s then -(m : Int) else (m : Int)) * 2 ^ (i + d) := by
  unfold signed
  rw [Nat.shiftLeft_eq, Nat.mul_assoc, ← Nat.pow_add]
  cases s <;> simp [Int.neg_mul]

theorem sum_DI {d e : Datum} {x y : Int} (hd : DI d x) (he : DI e y) : ∃ r, d.sum e = some r ∧ DI r (x + y) := by
  obtain ⟨s, m, i, rfl, hx⟩ := hd
  obtain ⟨t, n, j, rfl, hy⟩ := he
  refine ⟨_, rfl, ?_⟩
  have hbase : min (-(i : Int)) (-(j : Int)) = -((max i j : Nat) : Int) := by omega
  simp only [hbase]
  have e1 : (-(i : Int) - -((max i j : Nat) : Int)).toNat = max i j - i := by omega
  have e2 : (-(j : Int) - -((max i j : Nat) : Int)).toNat = max i j - j := by omega
  rw [e1, e2, signed_scale, signed_scale, ← hx, ← hy]
  have e3 : i + (max i j - i) = max i j := by omega
  have e4 : j + (max i j - j) = max i j := by omega
  rw [e3, e4, ← Int.add_mul]
  generalize max i j = b
  generalize x + y = z
  have hp : (0 : Int) < 2 ^ b := Int.pow_pos (by decide)
  have hn : ((2 : Int) ^ b).natAbs = 2 ^ b := by
    rw [Int.natAbs_pow]; rfl
  refine ⟨_, z.natAbs, b, by rw [Int.natAbs_mul, hn], ?_⟩
  by_cases hz : z = 0
  · subst hz
    simp
  · have hzb : z * 2 ^ b ≠ 0 := Int.mul_ne_zero hz (by omega)
    rw [if_neg hzb]
    by_cases hneg : z < 0
    · have : z * 2 ^ b < 0 := Int.mul_neg_of_neg_of_pos hneg hp
      simp [this]; omega
    · have : ¬ z * 2 ^ b < 0 := by
        have := Int.mul_nonneg (a := z) (by omega) (Int.le_of_lt hp); omega
      simp [this]; omega

theorem product_DI {d e : Datum} {x y : Int} (hd : DI d x) (he : DI e y) : ∃ r, d.product e = some r ∧ DI r (x * y) := by
  obtain ⟨s, m, i, rfl, rfl⟩ := hd
  obtain ⟨t, n, j, rfl, rfl⟩ := he
  refine ⟨_, rfl, s ^^ t, m * n, i + j, ?_, ?_⟩
  · congr 1
    · rw [Nat.pow_add]; exact Nat.mul_mul_mul_comm ..
    · omega
  · cases s <;> cases t <;> simp [Int.neg_mul, Int.mul_neg]

theorem order_DI {d e : Datum} {x y : Int} (hd : DI d x) (he : DI e y) : d.order e = some (compare x y) := by
  obtain ⟨s, m, i, rfl, hx⟩ := hd
  obtain ⟨t, n, j, rfl, hy⟩ := he
  show some _ = some _
  have hbase : min (-(i : Int)) (-(j : Int)) = -((max i j : Nat) : Int) := by omega
  simp only [hbase]
  have e1 : (-(i : Int) - -((max i j : Nat) : Int)).toNat = max i j - i := by omega
  have e2 : (-(j : Int) - -((max i j : Nat) : Int)).toNat = max i j - j := by omega
  rw [e1, e2, signed_scale, signed_scale, ← hx, ← hy]
  have e3 : i + (max i j - i) = max i j := by omega
  have e4 : j + (max i j - j) = max i j := by omega
  rw [e3, e4]
  generalize max i j = b
  have hp : (0 : Int) < 2 ^ b := Int.pow_pos (by decide)
  congr 1
  rcases Int.lt_trichotomy x y with h | h | h
  · have h' : x * 2 ^ b < y * 2 ^ b := Int.mul_lt_mul_of_pos_right h hp
    simp only [compare, compareOfLessAndEq, h, h', if_true]
  · subst h; simp [compare, compareOfLessAndEq]
  · have h' : y * 2 ^ b < x * 2 ^ b := Int.mul_lt_mul_of_pos_right h hp
    have a1 : ¬ x < y := by omega
    have a2 : ¬ x * 2 ^ b < y * 2 ^ b := by omega
    have a3 : ¬ x = y := by omega
    have a4 : ¬ x * 2 ^ b = y * 2 ^ b := by omega
    simp only [compare, compareOfLessAndEq, a1, a2, a3, a4, if_false]

theorem toInt_DI {d : Datum} {x : Int} (hd : DI d x) : d.toInt .zero = some x := by
  obtain ⟨s, m, i, rfl, hx⟩ := hd
  show some (signed s (Toward.zero.cut s ((m * 2 ^ i) <<< (-(i : Int)).toNat) (- -(i : Int)).toNat) 0) = some x
  have e1 : (-(i : Int)).toNat = 0 := by omega
  have e2 : (- -(i : Int)).toNat = i := by omega
  rw [e1, e2, Nat.shiftLeft_eq, Nat.pow_zero, Nat.mul_one, cut_exact .zero (Or.inr rfl)]
  unfold signed
  rw [hx]; simp

/- The operations, on bits. -/
theorem add_FI {a b : Nat} {x y : Int} (ha : FI a x) (hb : FI b y) (h : (x + y).natAbs < 2 ^ 53) : ∃ c, floatBits .add .f64 a b = some c ∧ FI c (x + y) := by
  obtain ⟨r, hr, hi⟩ := sum_DI (read_FI ha) (read_FI hb)
  exact ⟨_, by show double.add a b = _; unfold Format.add; rw [hr]; rfl, write_DI hi h⟩

theorem sub_FI {a b : Nat} {x y : Int} (ha : FI a x) (hb : FI b y) (h : (x - y).natAbs < 2 ^ 53) : ∃ c, floatBits .sub .f64 a b = some c ∧ FI c (x - y) := by
  obtain ⟨r, hr, hi⟩ := sum_DI (read_FI ha) (opposite_DI (read_FI hb))
  exact ⟨_, by show double.sub a b = _; unfold Format.sub; rw [hr]; rfl, write_DI hi h⟩

theorem mul_FI {a b : Nat} {x y : Int} (ha : FI a x) (hb : FI b y) (h : (x * y).natAbs < 2 ^ 53) : ∃ c, floatBits .mul .f64 a b = some c ∧ FI c (x * y) := by
  obtain ⟨r, hr, hi⟩ := product_DI (read_FI ha) (read_FI hb)
  exact ⟨_, by show double.mul a b = _; unfold Format.mul; rw [hr]; rfl, write_DI hi h⟩

theorem order_FI {a b : Nat} {x y : Int} (ha : FI a x) (hb : FI b y) : FloatKind.f64.format.order a b = some (compare x y) :=
  order_DI (read_FI ha) (read_FI hb)

theorem toInt_FI {a : Nat} {x : Int} (ha : FI a x) : floatToIntVal .f64 a .i64 = some x := by
  unfold floatToIntVal
  have : (FloatKind.f64.decode a).toInt .zero = some x := toInt_DI (read_FI ha)
  rw [this]
  have := ha.1
  have h1 : IntKind.min .i64 = -9223372036854775808 := by decide
  have h2 : IntKind.max .i64 = 9223372036854775807 := by decide
  simp only [h1, h2]
  rw [if_pos (by omega)]

theorem xor_top (r : Nat) (h : r < 2 ^ 63) : r ^^^ 2 ^ 63 = 2 ^ 63 + r := by
  apply Nat.eq_of_testBit_eq
  intro i
  rw [Nat.testBit_xor, Nat.testBit_two_pow]
  by_cases h1 : i = 63
  · subst h1
    rw [Nat.testBit_two_pow_add_eq]
    simp
  · by_cases h2 : i < 63
    · rw [Nat.testBit_two_pow_add_gt h2]
      have : decide (63 = i) = false := by simp; omega
      rw [this]; simp
    · have hi : 64 ≤ i := by omega
      have h3 : r < 2 ^ i := Nat.lt_of_lt_of_le (show r < 2 ^ 64 by omega) (Nat.pow_le_pow_right (by decide) hi)
      have h4 : 2 ^ 63 + r < 2 ^ i := Nat.lt_of_lt_of_le (show 2 ^ 63 + r < 2 ^ 64 by omega) (Nat.pow_le_pow_right (by decide) hi)
      rw [Nat.testBit_lt_two_pow h3, Nat.testBit_lt_two_pow h4]
      have : decide (63 = i) = false := by simp; omega
      rw [this]; rfl

theorem neg_word (s : Bool) (r : Nat) (h : r < 2 ^ 63) : Op.negFloat .f64 (double.word s r) = double.word (!s) r := by
  show double.word s r ^^^ 2 ^ 63 = _
  unfold Format.word
  rw [signWeight_double]
  cases s
  · simpa using xor_top r h
  · simp only [if_true, Bool.not_true]
    rw [if_neg (by decide), ← xor_top r h, Nat.xor_assoc, Nat.xor_self, Nat.xor_zero]

theorem neg_FI {a : Nat} {x : Int} (h : FI a x) : FI (Op.negFloat .f64 a) (-x) := by
  obtain ⟨hx, s, rfl, h1, h2⟩ := h
  refine ⟨by simpa using hx, !s, ?_, ?_, ?_⟩
  · rw [Int.natAbs_neg]
    by_cases hm : x.natAbs = 0
    · rw [hm]
      have e : ∀ s, double.nearest s 0 0 = double.word s 0 := fun s => by simp [Format.nearest]
      rw [e, e]
      exact neg_word s 0 (by decide)
    · have e := fun s => nearest_scale s x.natAbs 0 hm hx
      simp only [Nat.pow_zero, Nat.mul_one] at e
      have e0 : (-((0 : Nat) : Int)) = 0 := by decide
      simp only [e0] at e
      rw [e, e]
      have hL : x.natAbs.log2 < 53 := (Nat.log2_lt hm).2 hx
      have g2 := (Nat.log2_lt hm (k := x.natAbs.log2 + 1)).1 (Nat.lt_succ_self _)
      have hup : x.natAbs * 2 ^ (52 - x.natAbs.log2) < 2 ^ 53 := by
        calc x.natAbs * 2 ^ (52 - x.natAbs.log2) < 2 ^ (x.natAbs.log2 + 1) * 2 ^ (52 - x.natAbs.log2) := Nat.mul_lt_mul_of_pos_right g2 (Nat.two_pow_pos _)
          _ = 2 ^ 53 := by rw [← Nat.pow_add]; congr 1; omega
      refine neg_word s _ ?_
      generalize x.natAbs * 2 ^ (52 - x.natAbs.log2) = M at *
      generalize x.natAbs.log2 = L at *
      omega
  · intro h; have : s = false := by cases s <;> simp_all
    have := h2 this; omega
  · intro h; have : s = true := by cases s <;> simp_all
    have := h1 this; omega

theorem FI.bd {a : Nat} {x : Int} (h : FI a x) : x.natAbs < 2 ^ 53 := h.1

theorem gtr_FI {a b : Nat} {x y : Int} (ha : FI a x) (hb : FI b y) : (FloatKind.f64.format.order a b == some .gt) = decide (y < x) := by
  rw [order_FI ha hb]
  rcases Int.lt_trichotomy x y with h | h | h
  · have : ¬ y < x := by omega
    simp [compare, compareOfLessAndEq, h, this]
  · subst h; simp [compare, compareOfLessAndEq]
  · have h1 : ¬ x < y := by omega
    have h2 : ¬ x = y := by omega
    simp [compare, compareOfLessAndEq, h, h1, h2]

theorem lss_FI {a b : Nat} {x y : Int} (ha : FI a x) (hb : FI b y) : (FloatKind.f64.format.order a b == some .lt) = decide (x < y) := by
  rw [order_FI ha hb]
  rcases Int.lt_trichotomy x y with h | h | h
  · simp [compare, compareOfLessAndEq, h]
  · subst h; simp [compare, compareOfLessAndEq]
  · have h1 : ¬ x < y := by omega
    have h2 : ¬ x = y := by omega
    simp [compare, compareOfLessAndEq, h1, h2]

theorem of_FI {x : Int} (h : x.natAbs < 2 ^ 53) : FI (floatOfInt .f64 x) x := by
  refine ⟨h, decide (x < 0), rfl, ?_, ?_⟩
  · intro h; simp at h; omega
  · intro h; simp at h; omega

end Go.Proofs.Ytghlkpaadahpaaa.Fl
