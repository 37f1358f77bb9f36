/- Contracts of point, swap, sign, of, moved. -/
import Derived.Test.YtghlkpaadahpaaaA
namespace Go.Proofs.Ytghlkpaadahpaaa
open Go.RowKit Fl

theorem FI_one : FI 4607182418800017408 1 := ⟨by decide, false, by decide, by decide, by decide⟩
theorem FI_zero : FI 0 0 := ⟨by decide, false, by decide, by decide, by decide⟩

section
variable (P : Program) (w : World) (a : Addr) (m : Mode)
@[go_sem] theorem run_store_complex (k : FloatKind) (x y : Nat) : (store a (.complex k x y) m).run P w = stored P w a (.complex k x y) m := run_store P w a _ m rfl
end

/-- A complex number of two whole parts is returned; nothing that was there has changed. -/
def PC (x y : Int) (w : World) (e : Ending) (w' : World) : Prop := ∃ a b, e = .returned (.complex .f64 a b) ∧ FI a x ∧ FI b y ∧ Below w.heap.size w w'

theorem point_any (w : World) (f t : Int) (hf : f.natAbs < 2 ^ 53) (ht : t.natAbs < 2 ^ 53) : Calls Try.prog 29 #[sp f t] w (PC f t w) := by
  go_enter Try.func29, Try.ntmps29
  go_wp2
  go_ret
  exact ⟨_, _, rfl, of_FI hf, of_FI ht, (Below.refl _ _).alloc (Nat.le_refl _) _⟩

theorem mul_swap {a b : Nat} {x y : Int} (ha : FI a x) (hb : FI b y) : ∃ c d, cMulBits 0 4607182418800017408 a (Op.negFloat .f64 b) = some (c, d) ∧ FI c y ∧ FI d x := by
  have bx := ha.bd
  have bY := hb.bd
  have hn := neg_FI hb
  obtain ⟨ac, h1, f1⟩ := mul_FI FI_zero ha (by simp)
  obtain ⟨bd, h2, f2⟩ := mul_FI FI_one hn (by simpa using bY)
  obtain ⟨c, h3, f3⟩ := sub_FI f1 f2 (by simpa using bY)
  obtain ⟨ad, h4, f4⟩ := mul_FI FI_zero hn (by simp)
  obtain ⟨bc, h5, f5⟩ := mul_FI FI_one ha (by simpa using bx)
  obtain ⟨d, h6, f6⟩ := add_FI f4 f5 (by simpa using bx)
  refine ⟨c, d, ?_, by simpa using f3, by simpa using f6⟩
  unfold cMulBits
  rw [h1, h2]
  simp only [Option.bind_some]
  rw [h3, h4, h5]
  simp only [Option.bind_some]
  rw [h6]
  rfl

/-- A complex number of two whole parts is returned; the world is as it was. -/
def QC (x y : Int) (w : World) (e : Ending) (w' : World) : Prop := ∃ a b, e = .returned (.complex .f64 a b) ∧ FI a x ∧ FI b y ∧ w = w'

theorem swap_any (w : World) (a b : Nat) (x y : Int) (ha : FI a x) (hb : FI b y) : Calls Try.prog 30 #[.complex .f64 a b] w (QC y x w) := by
  obtain ⟨c, d, hcd, hc, hd⟩ := mul_swap ha hb
  have hneg : ∀ b, Op.unary .neg (.float .f64 b) = pure (.float .f64 (Op.negFloat .f64 b)) := fun _ => rfl
  have hm : ∀ w, (binOp .mul 42 (.complex .f64 0 4607182418800017408) (.complex .f64 a (Op.negFloat .f64 b))).run Try.prog w = .ok (.complex .f64 c d) w := fun w => run_complex_mul w 42 _ _ _ _ _ _ hcd
  clear hcd
  go_enter Try.func30, Try.ntmps30
  go_wp2
  go_ret
  exact ⟨c, d, rfl, hc, hd, rfl⟩

def sgnI (x : Int) : Int := if x < 0 then -1 else if 0 < x then 1 else 0
theorem sgn_neg {x : Int} (h : x < 0) : sgnI x = -1 := by simp [sgnI, h]
theorem sgn_pos {x : Int} (h : 0 < x) : sgnI x = 1 := by have : ¬ x < 0 := by omega
                                                         simp [sgnI, h, this]
theorem sgn_zero {x : Int} (h : x = 0) : sgnI x = 0 := by simp [sgnI, h]

theorem sign_of (w : World) (a : Nat) (x r : Int) (ha : FI a x) (hr : sgnI x = r) : Calls Try.prog 31 #[.float .f64 a] w fun e w' => e = .returned (.int .i64 r) ∧ w = w' := by
  subst hr
  have g0 := lss_FI ha FI_zero
  have g1 := gtr_FI ha FI_zero
  by_cases h1 : x < 0
  · rw [decide_eq_true h1] at g0
    rw [sgn_neg h1]
    clear g1
    go_enter Try.func31, Try.ntmps31
    go_wp2
    go_ret
    exact ⟨rfl, rfl⟩
  · rw [decide_eq_false h1] at g0
    by_cases h2 : 0 < x
    · rw [decide_eq_true h2] at g1
      rw [sgn_pos h2]
      go_enter Try.func31, Try.ntmps31
      go_wp2
      go_ret
      exact ⟨rfl, rfl⟩
    · rw [decide_eq_false h2] at g1
      rw [sgn_zero (by omega)]
      go_enter Try.func31, Try.ntmps31
      go_wp2
      go_ret
      exact ⟨rfl, rfl⟩

theorem of_any (w : World) (a b : Nat) (x y : Int) (ha : FI a x) (hb : FI b y) : Calls Try.prog 37 #[.complex .f64 a b] w (PV (sp x y) w) := by
  have hx : ∀ w, (convert 46 3 (.float .f64 a)).run Try.prog w = .ok (.int .i64 x) w := fun w => run_convert_float_int w 46 3 .f64 .i64 a x (by rw [Try.underlying46]; rfl) Try.underlying3 (toInt_FI ha)
  have hy : ∀ w, (convert 46 3 (.float .f64 b)).run Try.prog w = .ok (.int .i64 y) w := fun w => run_convert_float_int w 46 3 .f64 .i64 b y (by rw [Try.underlying46]; rfl) Try.underlying3 (toInt_FI hb)
  go_enter Try.func37, Try.ntmps37
  go_wp2
  exact bodyPost_ret (v := sp x y) (by simp [results, Try.results37, go_sem]) rfl ⟨rfl, (by repeat (first | exact Below.refl _ _ | refine Below.alloc ?_ (by first | omega | (simp; done) | (simp; omega)) _ | refine Below.setCell ?_ (by first | omega | (simp; done) | (simp; omega)) _ | refine Below.drew ?_ | refine Below.trans ?_ (Below.mono (by assumption) (by first | omega | (simp; done) | (simp; omega)))))⟩

theorem moved_yes (w : World) (a b : Nat) (x y : Int) (ha : FI a x) (hb : FI b y) (h : mayB x y = true) : Calls Try.prog 35 #[.complex .f64 a b] w (PV (.tuple #[sp x y, .int .i64 0]) w) := by
  go_enter Try.func35, Try.ntmps35
  go_wp2_with (first | (go_at_call 37; (with_reducible refine (of_any _ _ _ _ _ ha hb).mono ?_); rintro e w1 ⟨rfl, hb⟩; obtain ⟨hc, hf⟩ := bcell hb; have hz := hb.size; (try simp at hz); have z0 : w.heap.size < w1.heap.size := (by omega)) | (go_at_call 15; (with_reducible refine (may_of _ _ _ _ h).mono ?_); rintro e w1 ⟨rfl, hb⟩; obtain ⟨hc, hf⟩ := bcell hb; have hz := hb.size; (try simp at hz); have z0 : w.heap.size < w1.heap.size := (by omega)))
  obtain ⟨e0, e1⟩ := ret_slot (W := w) (w1 := _) (b := w.heap.size) (T := 23) (a0 := .int .i64 0) (a1 := .int .i64 0) (by simp) (hB := (by show Below _ _ w1; repeat (first | exact Below.refl _ _ | refine Below.alloc ?_ (by first | omega | (simp; done) | (simp; omega)) _ | refine Below.setCell ?_ (by first | omega | (simp; done) | (simp; omega)) _ | refine Below.drew ?_ | refine Below.trans ?_ (Below.mono (by assumption) (by first | omega | (simp; done) | (simp; omega))))))
  exact bodyPost_ret (v := .tuple #[sp x y, .int .i64 0]) (by simp [results, Try.results35, go_sem, e0, e1]) rfl ⟨rfl, (by repeat (first | exact Below.refl _ _ | refine Below.alloc ?_ (by first | omega | (simp; done) | (simp; omega)) _ | refine Below.setCell ?_ (by first | omega | (simp; done) | (simp; omega)) _ | refine Below.drew ?_ | refine Below.trans ?_ (Below.mono (by assumption) (by first | omega | (simp; done) | (simp; omega)))))⟩

theorem moved_no (w : World) (a b : Nat) (x y : Int) (ha : FI a x) (hb : FI b y) (h : mayB x y = false) : Calls Try.prog 35 #[.complex .f64 a b] w (PV (.tuple #[sp 0 0, .int .i64 13]) w) := by
  go_enter Try.func35, Try.ntmps35
  go_wp2_with (first | (go_at_call 37; (with_reducible refine (of_any _ _ _ _ _ ha hb).mono ?_); rintro e w1 ⟨rfl, hb⟩; obtain ⟨hc, hf⟩ := bcell hb; have hz := hb.size; (try simp at hz); have z0 : w.heap.size < w1.heap.size := (by omega)) | (go_at_call 15; (with_reducible refine (may_of _ _ _ _ h).mono ?_); rintro e w1 ⟨rfl, hb⟩; obtain ⟨hc, hf⟩ := bcell hb; have hz := hb.size; (try simp at hz); have z0 : w.heap.size < w1.heap.size := (by omega)))
  obtain ⟨e0, e1⟩ := ret_slot (W := w) (w1 := _) (b := w.heap.size) (T := 23) (a0 := .int .i64 0) (a1 := .int .i64 0) (by simp) (hB := (by show Below _ _ w1; repeat (first | exact Below.refl _ _ | refine Below.alloc ?_ (by first | omega | (simp; done) | (simp; omega)) _ | refine Below.setCell ?_ (by first | omega | (simp; done) | (simp; omega)) _ | refine Below.drew ?_ | refine Below.trans ?_ (Below.mono (by assumption) (by first | omega | (simp; done) | (simp; omega))))))
  exact bodyPost_ret (v := .tuple #[sp 0 0, .int .i64 13]) (by simp [results, Try.results35, go_sem, e0, e1]) rfl ⟨rfl, (by repeat (first | exact Below.refl _ _ | refine Below.alloc ?_ (by first | omega | (simp; done) | (simp; omega)) _ | refine Below.setCell ?_ (by first | omega | (simp; done) | (simp; omega)) _ | refine Below.drew ?_ | refine Below.trans ?_ (Below.mono (by assumption) (by first | omega | (simp; done) | (simp; omega)))))⟩

end Go.Proofs.Ytghlkpaadahpaaa
