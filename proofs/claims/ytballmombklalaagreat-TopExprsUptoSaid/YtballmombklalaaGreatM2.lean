/- num: size, signed, Neg, Add, Sub, Mul, Quo, Rem. -/
import Derived.Test.YtballmombklalaaGreatM1
import Derived.Laws.Bits64
import Derived.Lib.Mul64
import Derived.Shelf.Bits.Mul64
namespace Go.Proofs.YtballmombklalaaGreat
open Go.RowKit

def I64 (a : Int) : Prop := -9223372036854775808 ≤ a ∧ a ≤ 9223372036854775807
theorem ret_tup {x y x' y' : Value} (h : x = x') (k : y = y') : Ending.returned (.tuple #[x, y]) = .returned (.tuple #[x', y']) := by rw [h, k]

/-- A number without its sign. -/
def absI (a : Int) : Int := if a < 0 then -a else a
theorem absI_bd {a : Int} (h : I64 a) : 0 ≤ absI a ∧ absI a ≤ 9223372036854775808 := by unfold absI; unfold I64 at h; split <;> omega

theorem size_any (a : Int) (w : World) (h : I64 a) : Calls Tryz.prog 114 #[.int .i64 a] w fun e w' => e = .returned (.tuple #[.int .u64 (absI a), .bool (decide (a < 0))]) ∧ w' = w := by
  obtain ⟨h1, h2⟩ := h
  by_cases hn : a < 0
  · go_enter Tryz.func114, Tryz.ntmps114
    go_wp2
    go_ret2
    refine ⟨ret_tup (int_eq ?_) (by simp [hn]), rfl⟩
    simp only [Go.IntKind.wrap_u64, absI, if_pos hn]
    omega
  · go_enter Tryz.func114, Tryz.ntmps114
    go_wp2
    go_ret2
    refine ⟨ret_tup (int_eq ?_) (by simp; omega), rfl⟩
    unfold absI
    rw [if_neg (by omega)]

/-- A number by its size and its sign; too great a one is none. -/
def signedS (n : Int) (below : Bool) : Int × Int :=
  if below = true then (if n ≤ 9223372036854775808 then (-n, 0) else (0, 10)) else (if n ≤ 9223372036854775807 then (n, 0) else (0, 10))
theorem signedS_bd (n : Int) (below : Bool) (h : 0 ≤ n) : I64 (signedS n below).1 := by unfold signedS I64; split <;> split <;> simp only <;> omega

theorem signedS_tt {n : Int} (h : n ≤ 9223372036854775808) : signedS n true = (-n, 0) := by unfold signedS; rw [if_pos rfl, if_pos h]
theorem signedS_tf {n : Int} (h : ¬ n ≤ 9223372036854775808) : signedS n true = (0, 10) := by unfold signedS; rw [if_pos rfl, if_neg h]
theorem signedS_ft {n : Int} (h : n ≤ 9223372036854775807) : signedS n false = (n, 0) := by unfold signedS; rw [if_neg (by decide), if_pos h]
theorem signedS_ff {n : Int} (h : ¬ n ≤ 9223372036854775807) : signedS n false = (0, 10) := by unfold signedS; rw [if_neg (by decide), if_neg h]
theorem signed_any (n : Int) (below : Bool) (w : World) (h : 0 ≤ n ∧ n ≤ 18446744073709551615) : Calls Tryz.prog 115 #[.int .u64 n, .bool below] w fun e w' => e = .returned (.tuple #[.int .i64 (signedS n below).1, .int .i64 (signedS n below).2]) ∧ w' = w := by
  obtain ⟨h1, h2⟩ := h
  cases below with
  | true =>
    by_cases hn : n ≤ 9223372036854775808
    · rw [signedS_tt hn]
      go_enter Tryz.func115, Tryz.ntmps115
      go_wp2
      go_ret2
      refine ⟨ret_tup (int_eq ?_) rfl, rfl⟩
      simp only [wrap64, Go.IntKind.wrap_u64, Go.IntKind.wrap_i64]
      omega
    · rw [signedS_tf hn]
      go_enter Tryz.func115, Tryz.ntmps115
      go_wp2
      go_ret2
      exact ⟨rfl, rfl⟩
  | false =>
    by_cases hn : n ≤ 9223372036854775807
    · rw [signedS_ft hn]
      go_enter Tryz.func115, Tryz.ntmps115
      go_wp2
      go_ret2
      refine ⟨ret_tup (int_eq ?_) rfl, rfl⟩
      simp only [wrap64, Go.IntKind.wrap_u64, Go.IntKind.wrap_i64]
      try omega
    · rw [signedS_ff hn]
      go_enter Tryz.func115, Tryz.ntmps115
      go_wp2
      go_ret2
      exact ⟨rfl, rfl⟩

def negS (a : Int) : Int × Int := signedS (absI a) (!decide (a < 0))
theorem neg_any (a : Int) (w : World) (h : I64 a) : Calls Tryz.prog 85 #[.int .i64 a] w fun e w' => e = .returned (.tuple #[.int .i64 (negS a).1, .int .i64 (negS a).2]) ∧ w' = w := by
  have hs := size_any a w h
  have hb := absI_bd h
  have hg := signed_any (absI a) (!decide (a < 0)) w ⟨hb.1, by omega⟩
  unfold negS
  generalize signedS (absI a) (!decide (a < 0)) = r at *
  generalize absI a = x at *
  generalize decide (a < 0) = b at *
  clear hb h
  go_enter Tryz.func85, Tryz.ntmps85
  go_wp2_with fail
  refine hs.mono ?_
  rintro e w2 ⟨rfl, rfl⟩
  go_wp2_with fail
  refine hg.mono ?_
  rintro e w3 ⟨rfl, rfl⟩
  go_wp2_with fail
  go_ret2
  exact ⟨rfl, rfl⟩

/-- What a sum or a difference that is told to be c comes to. -/
def overS (over : Bool) (c : Int) : Int × Int := if over = true then (0, 10) else (c, 0)
def addS (a b : Int) : Int × Int := overS (!(decide (wrap64 (a + b) < a) == decide (b < 0))) (wrap64 (a + b))
def subS (a b : Int) : Int × Int := overS (!(decide (a < wrap64 (a - b)) == decide (b < 0))) (wrap64 (a - b))

theorem add_any (a b : Int) (w : World) : Calls Tryz.prog 134 #[.int .i64 a, .int .i64 b] w fun e w' => e = .returned (.tuple #[.int .i64 (addS a b).1, .int .i64 (addS a b).2]) ∧ w' = w := by
  unfold addS
  by_cases h : (decide (wrap64 (a + b) < a) == decide (b < 0)) = true
  · rw [h]
    go_enter Tryz.func134, Tryz.ntmps134
    go_wp2
    all_goals first | (exfalso; simp_all; done) | (go_ret2; exact ⟨rfl, rfl⟩)
  · rw [Bool.not_eq_true] at h
    rw [h]
    go_enter Tryz.func134, Tryz.ntmps134
    go_wp2
    all_goals first | (exfalso; simp_all; done) | (go_ret2; exact ⟨rfl, rfl⟩)
theorem sub_any (a b : Int) (w : World) : Calls Tryz.prog 135 #[.int .i64 a, .int .i64 b] w fun e w' => e = .returned (.tuple #[.int .i64 (subS a b).1, .int .i64 (subS a b).2]) ∧ w' = w := by
  unfold subS
  by_cases h : (decide (a < wrap64 (a - b)) == decide (b < 0)) = true
  · rw [h]
    go_enter Tryz.func135, Tryz.ntmps135
    go_wp2
    all_goals first | (exfalso; simp_all; done) | (go_ret2; exact ⟨rfl, rfl⟩)
  · rw [Bool.not_eq_true] at h
    rw [h]
    go_enter Tryz.func135, Tryz.ntmps135
    go_wp2
    all_goals first | (exfalso; simp_all; done) | (go_ret2; exact ⟨rfl, rfl⟩)

theorem mul64_any (a b : Int) (ha : 0 ≤ a ∧ a ≤ 18446744073709551615) (hb : 0 ≤ b ∧ b ≤ 18446744073709551615) (w : World) :
    Calls Tryz.prog 144 #[.int .u64 a, .int .u64 b] w fun e w' => e = .returned (.tuple #[.int .u64 (a * b / 18446744073709551616), .int .u64 (a * b % 18446744073709551616)]) ∧ w' = w := by
  obtain ⟨x, rfl⟩ := Int.eq_ofNat_of_zero_le ha.1
  obtain ⟨y, rfl⟩ := Int.eq_ofNat_of_zero_le hb.1
  have hx : x < 18446744073709551616 := by omega
  have hy : y < 18446744073709551616 := by omega
  clear ha hb
  obtain ⟨bd, bt, bw, hhi⟩ := Lib.mul64_hi x y hx hy
  have ba := Lib.half_mul_le (a := x / 4294967296) (b := y / 4294967296) (by omega) (by omega)
  have bb := Lib.half_mul_le (a := x / 4294967296) (b := y % 4294967296) (by omega) (by omega)
  have bc := Lib.half_mul_le (a := x % 4294967296) (b := y / 4294967296) (by omega) (by omega)
  have ba' : x / 4294967296 * (y / 4294967296) < 18446744073709551616 := by omega
  have bb' : x / 4294967296 * (y % 4294967296) < 18446744073709551616 := by omega
  have bc' : x % 4294967296 * (y / 4294967296) < 18446744073709551616 := by omega
  have bh1 : x / 4294967296 * (y / 4294967296) + (x / 4294967296 * (y % 4294967296) + x % 4294967296 * (y % 4294967296) / 4294967296) / 4294967296 < 18446744073709551616 := by omega
  have bh : x / 4294967296 * (y / 4294967296) + (x / 4294967296 * (y % 4294967296) + x % 4294967296 * (y % 4294967296) / 4294967296) / 4294967296 + ((x / 4294967296 * (y % 4294967296) + x % 4294967296 * (y % 4294967296) / 4294967296) % 4294967296 + x % 4294967296 * (y / 4294967296)) / 4294967296 < 18446744073709551616 := by omega
  go_enter Tryz.func144, Tryz.ntmps144
  go_wp2
  simp only [Mul64.maskN x hx, Mul64.maskN y hy, Mul64.divN, Mul64.mulN, Mul64.addN, Mul64.wrapN _ bd, Mul64.wrapN _ bb', Mul64.wrapN _ bt, Mul64.maskN _ bt, Mul64.wrapN _ bc', Mul64.wrapN _ bw, Mul64.wrapN _ ba', Mul64.wrapN _ bh1, Mul64.wrapN _ bh, Mul64.wrapM (x * y)]
  rw [hhi]
  go_ret2
  refine ⟨ret_tup (int_eq ?_) (int_eq ?_), rfl⟩
  · rfl
  · rfl

def mulS (a b : Int) : Int × Int := if absI a * absI b / 18446744073709551616 ≠ 0 then (0, 10) else signedS (absI a * absI b % 18446744073709551616) (!(decide (a < 0) == decide (b < 0)))
theorem mul_any (a b : Int) (ha : I64 a) (hb : I64 b) (w : World) : Calls Tryz.prog 136 #[.int .i64 a, .int .i64 b] w fun e w' => e = .returned (.tuple #[.int .i64 (mulS a b).1, .int .i64 (mulS a b).2]) ∧ w' = w := by
  have h1 := size_any a w ha
  have h2 := size_any b w hb
  have b1 := absI_bd ha
  have b2 := absI_bd hb
  have hm := mul64_any (absI a) (absI b) ⟨b1.1, by omega⟩ ⟨b2.1, by omega⟩ w
  have hg := signed_any (absI a * absI b % 18446744073709551616) (!(decide (a < 0) == decide (b < 0))) w (by omega)
  unfold mulS
  generalize signedS (absI a * absI b % 18446744073709551616) (!(decide (a < 0) == decide (b < 0))) = r at *
  generalize absI a * absI b / 18446744073709551616 = hi at *
  generalize absI a * absI b % 18446744073709551616 = lo at *
  clear b1 b2 ha hb
  generalize absI a = x at *
  generalize absI b = y at *
  generalize decide (a < 0) = p at *
  generalize decide (b < 0) = q at *
  by_cases hz : hi = 0
  · subst hz
    go_enter Tryz.func136, Tryz.ntmps136
    go_wp2_with fail
    refine h1.mono ?_
    rintro e w2 ⟨rfl, rfl⟩
    go_wp2_with fail
    refine h2.mono ?_
    rintro e w2 ⟨rfl, rfl⟩
    go_wp2_with fail
    refine hm.mono ?_
    rintro e w2 ⟨rfl, rfl⟩
    go_wp2_with fail
    refine hg.mono ?_
    rintro e w3 ⟨rfl, rfl⟩
    go_wp2_with fail
    go_ret2
    exact ⟨rfl, rfl⟩
  · rw [if_pos hz]
    go_enter Tryz.func136, Tryz.ntmps136
    go_wp2_with fail
    refine h1.mono ?_
    rintro e w2 ⟨rfl, rfl⟩
    go_wp2_with fail
    refine h2.mono ?_
    rintro e w2 ⟨rfl, rfl⟩
    go_wp2_with fail
    refine hm.mono ?_
    rintro e w2 ⟨rfl, rfl⟩
    go_wp2_with fail
    go_ret2
    exact ⟨rfl, rfl⟩

def quoS (a b : Int) : Int × Int := if b = 0 then (0, 11) else signedS (absI a / absI b) (!(decide (a < 0) == decide (b < 0)))
def remS (a b : Int) : Int × Int := if b = 0 then (0, 11) else signedS (absI a % absI b) (decide (a < 0))
theorem quo_any (a b : Int) (ha : I64 a) (hb : I64 b) (w : World) : Calls Tryz.prog 137 #[.int .i64 a, .int .i64 b] w fun e w' => e = .returned (.tuple #[.int .i64 (quoS a b).1, .int .i64 (quoS a b).2]) ∧ w' = w := by
  unfold quoS
  by_cases hz : b = 0
  · rw [if_pos hz]
    subst hz
    go_enter Tryz.func137, Tryz.ntmps137
    go_wp2_with fail
    go_ret2
    exact ⟨rfl, rfl⟩
  · rw [if_neg hz]
    have h1 := size_any a w ha
    have h2 := size_any b w hb
    have b1 := absI_bd ha
    have b2 := absI_bd hb
    have b3 : 0 < absI b := by unfold absI; split <;> omega
    have b4 : 0 ≤ absI a / absI b ∧ absI a / absI b ≤ absI a := ⟨Int.ediv_nonneg b1.1 b2.1, Int.ediv_le_self _ b1.1⟩
    have b5 := Int.emod_nonneg (absI a) (show absI b ≠ 0 by omega)
    have b6 := Int.emod_lt_of_pos (absI a) b3
    have b7 : absI b ≠ 0 := by omega
    have ew : IntKind.u64.wrap (absI a / absI b) = absI a / absI b := by rw [IntKind.wrap_u64]; omega
    have ew2 : IntKind.u64.wrap (absI a % absI b) = absI a % absI b := by rw [IntKind.wrap_u64]; omega
    have et : (absI a).tdiv (absI b) = absI a / absI b := Int.tdiv_eq_ediv_of_nonneg b1.1
    have et2 : (absI a).tmod (absI b) = absI a % absI b := Int.tmod_eq_emod_of_nonneg b1.1
    have hg := signed_any (absI a / absI b) (!(decide (a < 0) == decide (b < 0))) w (by omega)
    generalize signedS (absI a / absI b) (!(decide (a < 0) == decide (b < 0))) = r at *
    clear b1 b2 b3 b4 b5 b6 ha hb
    generalize absI a = x at *
    generalize absI b = y at *
    generalize decide (a < 0) = p at *
    generalize decide (b < 0) = q at *
    go_enter Tryz.func137, Tryz.ntmps137
    go_wp2_with fail
    refine h1.mono ?_
    rintro e w2 ⟨rfl, rfl⟩
    go_wp2_with fail
    refine h2.mono ?_
    rintro e w2 ⟨rfl, rfl⟩
    go_wp2_with fail
    refine hg.mono ?_
    rintro e w3 ⟨rfl, rfl⟩
    go_wp2_with fail
    go_ret2
    exact ⟨rfl, rfl⟩

theorem rem_any (a b : Int) (ha : I64 a) (hb : I64 b) (w : World) : Calls Tryz.prog 138 #[.int .i64 a, .int .i64 b] w fun e w' => e = .returned (.tuple #[.int .i64 (remS a b).1, .int .i64 (remS a b).2]) ∧ w' = w := by
  unfold remS
  by_cases hz : b = 0
  · rw [if_pos hz]
    subst hz
    go_enter Tryz.func138, Tryz.ntmps138
    go_wp2_with fail
    go_ret2
    exact ⟨rfl, rfl⟩
  · rw [if_neg hz]
    have h1 := size_any a w ha
    have h2 := size_any b w hb
    have b1 := absI_bd ha
    have b2 := absI_bd hb
    have b3 : 0 < absI b := by unfold absI; split <;> omega
    have b4 : 0 ≤ absI a / absI b ∧ absI a / absI b ≤ absI a := ⟨Int.ediv_nonneg b1.1 b2.1, Int.ediv_le_self _ b1.1⟩
    have b5 := Int.emod_nonneg (absI a) (show absI b ≠ 0 by omega)
    have b6 := Int.emod_lt_of_pos (absI a) b3
    have b7 : absI b ≠ 0 := by omega
    have ew : IntKind.u64.wrap (absI a / absI b) = absI a / absI b := by rw [IntKind.wrap_u64]; omega
    have ew2 : IntKind.u64.wrap (absI a % absI b) = absI a % absI b := by rw [IntKind.wrap_u64]; omega
    have et : (absI a).tdiv (absI b) = absI a / absI b := Int.tdiv_eq_ediv_of_nonneg b1.1
    have et2 : (absI a).tmod (absI b) = absI a % absI b := Int.tmod_eq_emod_of_nonneg b1.1
    have hg := signed_any (absI a % absI b) (decide (a < 0)) w (by omega)
    generalize signedS (absI a % absI b) (decide (a < 0)) = r at *
    clear b1 b2 b3 b4 b5 b6 ha hb
    generalize absI a = x at *
    generalize absI b = y at *
    generalize decide (a < 0) = p at *
    generalize decide (b < 0) = q at *
    go_enter Tryz.func138, Tryz.ntmps138
    go_wp2_with fail
    refine h1.mono ?_
    rintro e w2 ⟨rfl, rfl⟩
    go_wp2_with fail
    refine h2.mono ?_
    rintro e w2 ⟨rfl, rfl⟩
    go_wp2_with fail
    refine hg.mono ?_
    rintro e w3 ⟨rfl, rfl⟩
    go_wp2_with fail
    go_ret2
    exact ⟨rfl, rfl⟩
end Go.Proofs.YtballmombklalaaGreat
