/- Contracts of the given program's leans: New, take, Put, Parts, Spun, Join. -/
import Derived.Test.YtbfkbbdjijlffaaA
import Derived.Test.YtbfkbbdjijlffaaKept
namespace Go.Proofs.Ytbfkbbdjijlffaa
open Go.RowKit Fl

section
variable (P : Program) (w : World) (a : Addr) (m : Mode)
@[go_sem] theorem run_store_complex (k : FloatKind) (x y : Nat) : (store a (.complex k x y) m).run P w = stored P w a (.complex k x y) m := run_store P w a _ m rfl
end

/-- A lean lies in block b. -/
def At (w : World) (b : Nat) (X Y : Int) : Prop := ∃ a c, w.cell? ⟨b, 0, none⟩ = some (.complex .f64 a c) ∧ w.frozen? ⟨b, 0, none⟩ = false ∧ FI a X ∧ FI c Y

theorem At.kept {S : Nat → Prop} {w w' : World} {b : Nat} {X Y : Int} (h : At w b X Y) (k : Kept S w w') (hn : ¬ S b) : At w' b X Y := by
  obtain ⟨a, c, h1, h2, h3, h4⟩ := h
  exact ⟨a, c, k.cell h1 hn, by rw [k.frozen (World.block_lt_of_cell? _ _ h1) hn]; exact h2, h3, h4⟩

theorem At.lt {w : World} {b : Nat} {X Y : Int} (h : At w b X Y) : b < w.heap.size := by
  obtain ⟨a, c, h1, _⟩ := h
  exact World.block_lt_of_cell? _ _ h1

theorem At.bd {w : World} {b : Nat} {X Y : Int} (h : At w b X Y) : X.natAbs < 2 ^ 53 ∧ Y.natAbs < 2 ^ 53 := by
  obtain ⟨a, c, _, _, h3, h4⟩ := h
  exact ⟨h3.bd, h4.bd⟩

/-- v is returned; the lean in block b is (X, Y); no other block has changed, none is new. -/
def PostAt (b : Nat) (v : Value) (X Y : Int) (w : World) (e : Ending) (w' : World) : Prop :=
  e = .returned v ∧ At w' b X Y ∧ Kept (· = b) w w' ∧ w'.heap.size = w.heap.size

/-- A new lean is returned, in the next block. -/
def PostNew (X Y : Int) (w : World) (e : Ending) (w' : World) : Prop :=
  e = .returned (.pointer (some ⟨w.heap.size, 0, none⟩)) ∧ At w' w.heap.size X Y ∧ Kept (fun _ => False) w w' ∧ w'.heap.size = w.heap.size + 1

theorem new_any (w : World) : Calls Try.prog 7 #[] w (PostNew 0 0 w) := by
  go_enter Try.func7, Try.ntmps7
  go_wp2
  go_ret
  exact ⟨rfl, ⟨0, 0, by simp, by simp, FI_zero, FI_zero⟩, (Kept.refl _ _).alloc _, by simp⟩

theorem FI_far : FI 4832362400168542208 1125899906842624 := ⟨by decide, false, by decide, by decide, by decide⟩

theorem store_at {w : World} {b : Nat} {a c : Nat} {X Y : Int} {u : Value} (h1 : w.cell? ⟨b, 0, none⟩ = some u) (h2 : w.frozen? ⟨b, 0, none⟩ = false) (h3 : FI a X) (h4 : FI c Y) :
    At (w.setCell ⟨b, 0, none⟩ (.complex .f64 a c)) b X Y ∧ Kept (· = b) w (w.setCell ⟨b, 0, none⟩ (.complex .f64 a c)) :=
  ⟨⟨a, c, World.cell?_setCell_same _ _ _ h1, by rw [World.frozen?_setCell]; exact h2, h3, h4⟩, (Kept.refl (· = b) w).setCell (p := ⟨b, 0, none⟩) (fun _ => rfl) _⟩

def TakeRel (i : Value) : Prop := ∃ k : Nat, k ≤ 4 ∧ i = .int .i64 k

def farB (X Y : Int) : Bool := decide (X > 1125899906842624 ∨ X < -1125899906842624 ∨ Y > 1125899906842624 ∨ Y < -1125899906842624)

set_option maxHeartbeats 800000 in
theorem take_ok (w : World) (b d e : Nat) (X Y U V : Int) (h : At w b X Y) (hd : FI d U) (he : FI e V) (hU : U.natAbs < 2 ^ 52) (hX : X.natAbs < 2 ^ 52) (hV : V.natAbs < 2 ^ 52) (hY : Y.natAbs < 2 ^ 52) (hf : farB (X + U) (Y + V) = false) :
    Calls Try.prog 16 #[.pointer (some ⟨b, 0, none⟩), .complex .f64 d e] w (PostAt b (.int .i64 0) (X + U) (Y + V) w) := by
  obtain ⟨a, c, h1, h2, h3, h4⟩ := h
  obtain ⟨s, hs, fs⟩ := add_FI h3 hd (by omega)
  obtain ⟨t, ht, ft⟩ := add_FI h4 he (by omega)
  have hadd : ∀ w, (binOp .add 42 (.complex .f64 a c) (.complex .f64 d e)).run Try.prog w = .ok (.complex .f64 s t) w := fun w => run_complex_sum w .add (.inl rfl) 42 .f64 a c d e s t (by unfold cSumBits; rw [hs, ht]; rfl)
  have hneg : ∀ b, Op.unary .neg (.float .f64 b) = pure (.float .f64 (Op.negFloat .f64 b)) := fun _ => rfl
  have g0 := gtr_FI fs FI_far
  have g1 := gtr_FI ft FI_far
  have g2 := gtr_FI (neg_FI fs) FI_far
  have g3 := gtr_FI (neg_FI ft) FI_far
  simp only [farB, decide_eq_false_iff_not] at hf
  rw [decide_eq_false (by omega)] at g0 g1 g2 g3
  clear hs ht
  go_enter Try.func16, Try.ntmps16
  go_wp2
  go_loop [25] TakeRel (fun i => 4 - (intOf i).toNat)
  case atStart => exact ⟨0, by omega, rfl⟩
  case round =>
    obtain ⟨k, hk, rfl⟩ := hrel
    have i0 : ∀ w, (Instr.index 50 (.agg #[.float .f64 s, .float .f64 t, .float .f64 (Op.negFloat .f64 s), .float .f64 (Op.negFloat .f64 t)]) (.int .i64 0)).run Try.prog w = .ok (.float .f64 s) w := fun _ => by kernel_rfl
    have i1 : ∀ w, (Instr.index 50 (.agg #[.float .f64 s, .float .f64 t, .float .f64 (Op.negFloat .f64 s), .float .f64 (Op.negFloat .f64 t)]) (.int .i64 1)).run Try.prog w = .ok (.float .f64 t) w := fun _ => by kernel_rfl
    have i2 : ∀ w, (Instr.index 50 (.agg #[.float .f64 s, .float .f64 t, .float .f64 (Op.negFloat .f64 s), .float .f64 (Op.negFloat .f64 t)]) (.int .i64 2)).run Try.prog w = .ok (.float .f64 (Op.negFloat .f64 s)) w := fun _ => by kernel_rfl
    have i3 : ∀ w, (Instr.index 50 (.agg #[.float .f64 s, .float .f64 t, .float .f64 (Op.negFloat .f64 s), .float .f64 (Op.negFloat .f64 t)]) (.int .i64 3)).run Try.prog w = .ok (.float .f64 (Op.negFloat .f64 t)) w := fun _ => by kernel_rfl
    obtain rfl | rfl | rfl | rfl | rfl : k = 0 ∨ k = 1 ∨ k = 2 ∨ k = 3 ∨ k = 4 := by omega
    · go_wp2
      go_round
      case rel => exact ⟨1, by omega, rfl⟩
      case measure => simp [intOf]
    · go_wp2
      go_round
      case rel => exact ⟨2, by omega, rfl⟩
      case measure => simp [intOf]
    · go_wp2
      go_round
      case rel => exact ⟨3, by omega, rfl⟩
      case measure => simp [intOf]
    · go_wp2
      go_round
      case rel => exact ⟨4, by omega, rfl⟩
      case measure => simp [intOf]
    · go_wp2
      go_ret
      obtain ⟨q1, q2⟩ := store_at h1 h2 fs ft
      exact ⟨rfl, q1, q2, by simp⟩

def TakeFarRel (X Y : Int) (i : Value) : Prop := ∃ k : Nat, k ≤ 4 ∧ i = .int .i64 k ∧ (0 < k → ¬ 1125899906842624 < X) ∧ (1 < k → ¬ 1125899906842624 < Y) ∧ (2 < k → ¬ 1125899906842624 < -X) ∧ (3 < k → ¬ 1125899906842624 < -Y)

set_option maxHeartbeats 800000 in
theorem take_far (w : World) (b d e : Nat) (X Y U V : Int) (h : At w b X Y) (hd : FI d U) (he : FI e V) (hU : U.natAbs < 2 ^ 52) (hX : X.natAbs < 2 ^ 52) (hV : V.natAbs < 2 ^ 52) (hY : Y.natAbs < 2 ^ 52) (hf : farB (X + U) (Y + V) = true) :
    Calls Try.prog 16 #[.pointer (some ⟨b, 0, none⟩), .complex .f64 d e] w (PostAt b (.int .i64 10) X Y w) := by
  obtain ⟨a, c, h1, h2, h3, h4⟩ := h
  obtain ⟨s, hs, fs⟩ := add_FI h3 hd (by omega)
  obtain ⟨t, ht, ft⟩ := add_FI h4 he (by omega)
  have hadd : ∀ w, (binOp .add 42 (.complex .f64 a c) (.complex .f64 d e)).run Try.prog w = .ok (.complex .f64 s t) w := fun w => run_complex_sum w .add (.inl rfl) 42 .f64 a c d e s t (by unfold cSumBits; rw [hs, ht]; rfl)
  have hneg : ∀ b, Op.unary .neg (.float .f64 b) = pure (.float .f64 (Op.negFloat .f64 b)) := fun _ => rfl
  have g0 := gtr_FI fs FI_far
  have g1 := gtr_FI ft FI_far
  have g2 := gtr_FI (neg_FI fs) FI_far
  have g3 := gtr_FI (neg_FI ft) FI_far
  simp only [farB, decide_eq_true_eq] at hf
  clear hs ht
  generalize X + U = SX at *
  generalize Y + V = SY at *
  go_enter Try.func16, Try.ntmps16
  go_wp2
  go_loop [25] (TakeFarRel SX SY) (fun i => 4 - (intOf i).toNat)
  case atStart => exact ⟨0, by omega, rfl, by omega, by omega, by omega, by omega⟩
  case round =>
    obtain ⟨k, hk, rfl, k0, k1, k2, k3⟩ := hrel
    have i0 : ∀ w, (Instr.index 50 (.agg #[.float .f64 s, .float .f64 t, .float .f64 (Op.negFloat .f64 s), .float .f64 (Op.negFloat .f64 t)]) (.int .i64 0)).run Try.prog w = .ok (.float .f64 s) w := fun _ => by kernel_rfl
    have i1 : ∀ w, (Instr.index 50 (.agg #[.float .f64 s, .float .f64 t, .float .f64 (Op.negFloat .f64 s), .float .f64 (Op.negFloat .f64 t)]) (.int .i64 1)).run Try.prog w = .ok (.float .f64 t) w := fun _ => by kernel_rfl
    have i2 : ∀ w, (Instr.index 50 (.agg #[.float .f64 s, .float .f64 t, .float .f64 (Op.negFloat .f64 s), .float .f64 (Op.negFloat .f64 t)]) (.int .i64 2)).run Try.prog w = .ok (.float .f64 (Op.negFloat .f64 s)) w := fun _ => by kernel_rfl
    have i3 : ∀ w, (Instr.index 50 (.agg #[.float .f64 s, .float .f64 t, .float .f64 (Op.negFloat .f64 s), .float .f64 (Op.negFloat .f64 t)]) (.int .i64 3)).run Try.prog w = .ok (.float .f64 (Op.negFloat .f64 t)) w := fun _ => by kernel_rfl
    obtain rfl | rfl | rfl | rfl | rfl : k = 0 ∨ k = 1 ∨ k = 2 ∨ k = 3 ∨ k = 4 := by omega
    · clear k0 k1 k2 k3
      by_cases hg : 1125899906842624 < SX
      · rw [decide_eq_true hg] at g0
        go_wp2
        go_ret
        exact ⟨rfl, ⟨a, c, h1, h2, h3, h4⟩, Kept.refl _ _, rfl⟩
      · rw [decide_eq_false hg] at g0
        go_wp2
        go_round
        case rel => exact ⟨1, by omega, rfl, by omega, by omega, by omega, by omega⟩
        case measure => simp [intOf]
    · have k0 := k0 (by omega)
      clear k1 k2 k3
      by_cases hg : 1125899906842624 < SY
      · rw [decide_eq_true hg] at g1
        go_wp2
        go_ret
        exact ⟨rfl, ⟨a, c, h1, h2, h3, h4⟩, Kept.refl _ _, rfl⟩
      · rw [decide_eq_false hg] at g1
        go_wp2
        go_round
        case rel => exact ⟨2, by omega, rfl, by omega, by omega, by omega, by omega⟩
        case measure => simp [intOf]
    · have k0 := k0 (by omega)
      have k1 := k1 (by omega)
      clear k2 k3
      by_cases hg : 1125899906842624 < -SX
      · rw [decide_eq_true hg] at g2
        go_wp2
        go_ret
        exact ⟨rfl, ⟨a, c, h1, h2, h3, h4⟩, Kept.refl _ _, rfl⟩
      · rw [decide_eq_false hg] at g2
        go_wp2
        go_round
        case rel => exact ⟨3, by omega, rfl, by omega, by omega, by omega, by omega⟩
        case measure => simp [intOf]
    · have k0 := k0 (by omega)
      have k1 := k1 (by omega)
      have k2 := k2 (by omega)
      clear k3
      by_cases hg : 1125899906842624 < -SY
      · rw [decide_eq_true hg] at g3
        go_wp2
        go_ret
        exact ⟨rfl, ⟨a, c, h1, h2, h3, h4⟩, Kept.refl _ _, rfl⟩
      · omega
    · exfalso
      have k0 := k0 (by omega)
      have k1 := k1 (by omega)
      have k2 := k2 (by omega)
      have k3 := k3 (by omega)
      omega
end Go.Proofs.Ytbfkbbdjijlffaa
