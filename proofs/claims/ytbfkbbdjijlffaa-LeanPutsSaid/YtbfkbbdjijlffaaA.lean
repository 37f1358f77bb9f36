/- Contracts of the given program's leans: spin, parts, Unit, New. -/
import Derived.Test.YtbfkbbdjijlffaaChecked
import Derived.Test.YtbfkbbdjijlffaaFl
import Derived.WalkKit
import Derived.WalkLawsBesides
import Derived.Lib.Hide
import Derived.KernelRfl
namespace Go.Proofs.Ytbfkbbdjijlffaa
open Go.RowKit Fl

theorem i64_and3 (n : Int) : bits .and .i64 n 3 = n % 4 := by
  have h127 : (BitVec.ofInt 64 3).toNat = 2 ^ 2 - 1 := by decide
  have key : (BitVec.ofInt 64 n &&& BitVec.ofInt 64 3).toNat = (n % ((2 ^ 64 : Nat) : Int)).toNat % 2 ^ 2 := by
    rw [BitVec.toNat_and, BitVec.toNat_ofInt, h127, Nat.and_two_pow_sub_one_eq_mod]
  show IntKind.i64.wrap ((BitVec.ofInt 64 n &&& BitVec.ofInt 64 3).toNat : Nat) = n % 4
  rw [key, IntKind.wrap_i64]
  omega

/-- x of a number q quarters on. -/
def rotX (q x y : Int) : Int := if q % 4 = 0 then x else if q % 4 = 1 then -y else if q % 4 = 2 then -x else y
def rotY (q x y : Int) : Int := if q % 4 = 0 then y else if q % 4 = 1 then x else if q % 4 = 2 then -y else -x

theorem rotX_succ (q x y : Int) : rotX (q + 1) x y = -rotY q x y := by unfold rotX rotY; split <;> split <;> first | omega | (split <;> first | omega | (split <;> first | omega | (split <;> first | omega | (split <;> omega))))
theorem rotY_succ (q x y : Int) : rotY (q + 1) x y = rotX q x y := by unfold rotX rotY; split <;> split <;> first | omega | (split <;> first | omega | (split <;> first | omega | (split <;> first | omega | (split <;> omega))))
theorem rotX_mod {p q : Int} (x y : Int) (h : p % 4 = q % 4) : rotX p x y = rotX q x y := by unfold rotX; rw [h]
theorem rotY_mod {p q : Int} (x y : Int) (h : p % 4 = q % 4) : rotY p x y = rotY q x y := by unfold rotY; rw [h]

/-- A complex number of two whole parts is returned; the world is as it was. -/
def RetC (x y : Int) (w : World) (e : Ending) (w' : World) : Prop := ∃ a b, e = .returned (.complex .f64 a b) ∧ FI a x ∧ FI b y ∧ w = w'

theorem FI_one : FI 4607182418800017408 1 := ⟨by decide, false, by decide, by decide, by decide⟩
theorem FI_zero : FI 0 0 := ⟨by decide, false, by decide, by decide, by decide⟩

theorem mul_i {a b : Nat} {x y : Int} (ha : FI a x) (hb : FI b y) : ∃ c d, cMulBits a b 0 4607182418800017408 = some (c, d) ∧ FI c (-y) ∧ FI d x := by
  have bx := ha.bd
  have bY := hb.bd
  obtain ⟨ac, h1, f1⟩ := mul_FI ha FI_zero (by simp)
  obtain ⟨bd, h2, f2⟩ := mul_FI hb FI_one (by simpa using bY)
  obtain ⟨c, h3, f3⟩ := sub_FI f1 f2 (by simpa using bY)
  obtain ⟨ad, h4, f4⟩ := mul_FI ha FI_one (by simpa using bx)
  obtain ⟨bc, h5, f5⟩ := mul_FI hb FI_zero (by simp)
  obtain ⟨d, h6, f6⟩ := add_FI f4 f5 (by simpa using bx)
  refine ⟨c, d, ?_, by simpa using f3, by simpa using f6⟩
  unfold cMulBits
  rw [h1, h2]
  simp only [Option.bind_some]
  rw [h3, h4, h5]
  simp only [Option.bind_some]
  rw [h6]
  rfl

def SpinRel (q x y : Int) (z i : Value) : Prop := ∃ k : Nat, (k : Int) ≤ q % 4 ∧ i = .int .i64 k ∧ ∃ a b, z = .complex .f64 a b ∧ FI a (rotX k x y) ∧ FI b (rotY k x y)

set_option maxHeartbeats 400000 in
theorem spin_any (a b : Nat) (q x y : Int) (w : World) (ha : FI a x) (hb : FI b y) :
    Calls Try.prog 17 #[.complex .f64 a b, .int .i64 q] w (RetC (rotX q x y) (rotY q x y) w) := by
  have hq := i64_and3 q
  have hq0 : 0 ≤ q % 4 := by omega
  have hq1 : q % 4 < 4 := by omega
  go_enter Try.func17, Try.ntmps17
  go_wp2
  go_loop [0, 7] (SpinRel q x y) (fun _ i => 4 - (intOf i).toNat)
  case atStart => exact ⟨0, by simpa using hq0, rfl, a, b, rfl, by simpa [rotX] using ha, by simpa [rotY] using hb⟩
  case round =>
    obtain ⟨k, hk, rfl, a', b', rfl, ha', hb'⟩ := hrel
    by_cases hlt : (k : Int) < q % 4
    · obtain ⟨c, d, hcd, hc, hd⟩ := mul_i ha' hb'
      have hm : ∀ w, (binOp .mul 42 (.complex .f64 a' b') (.complex .f64 0 4607182418800017408)).run Try.prog w = .ok (.complex .f64 c d) w := fun w => run_complex_mul w 42 _ _ _ _ _ _ hcd
      clear hcd
      go_wp2
      go_round
      case rel =>
        refine ⟨k + 1, by omega, by go_num, c, d, rfl, ?_, ?_⟩
        · have := rotX_succ k x y; rw [← this] at hc; exact hc
        · have := rotY_succ k x y; rw [← this] at hd; exact hd
      case measure => simp [intOf]; omega
    · have he : (k : Int) = q % 4 := by omega
      have HE := Lib.hid he
      clear he
      go_wp2
      go_ret
      exact ⟨a', b', rfl, by rw [← rotX_mod (p := k) (q := q) x y (by have := HE.out; omega)]; exact ha', by rw [← rotY_mod (p := k) (q := q) x y (by have := HE.out; omega)]; exact hb', rfl⟩

/-- Two whole numbers are returned; the world is as it was. -/
def Ret2 (x y : Int) (w : World) (e : Ending) (w' : World) : Prop := e = .returned (.tuple #[.int .i64 x, .int .i64 y]) ∧ w = w'

theorem parts_any (a b : Nat) (x y : Int) (w : World) (ha : FI a x) (hb : FI b y) :
    Calls Try.prog 18 #[.complex .f64 a b] w (Ret2 x y w) := by
  have hx : ∀ w, (convert 47 3 (.float .f64 a)).run Try.prog w = .ok (.int .i64 x) w := fun w => run_convert_float_int w 47 3 .f64 .i64 a x (by rw [Try.underlying47]; rfl) Try.underlying3 (toInt_FI ha)
  have hy : ∀ w, (convert 47 3 (.float .f64 b)).run Try.prog w = .ok (.int .i64 y) w := fun w => run_convert_float_int w 47 3 .f64 .i64 b y (by rw [Try.underlying47]; rfl) Try.underlying3 (toInt_FI hb)
  go_enter Try.func18, Try.ntmps18
  go_wp2
  go_ret2
  exact ⟨rfl, rfl⟩

theorem unit_any (q : Int) (w : World) : Calls Try.prog 13 #[.int .i64 q] w (Ret2 (rotX q 1 0) (rotY q 1 0) w) := by
  go_enter Try.func13, Try.ntmps13
  go_wp2_with (first | (go_at_call 17; refine (spin_any _ _ q 1 0 _ FI_one FI_zero).mono ?_; rintro e w' ⟨a, b, rfl, ha, hb, rfl⟩) | (go_at_call 18; refine (parts_any _ _ _ _ _ ha hb).mono ?_; rintro e w' ⟨rfl, rfl⟩))
  go_ret2
  exact ⟨rfl, rfl⟩
end Go.Proofs.Ytbfkbbdjijlffaa
