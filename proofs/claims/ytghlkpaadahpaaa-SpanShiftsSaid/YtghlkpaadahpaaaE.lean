/- Contracts of Shift and Mirror, the program's and the reference's. -/
import Derived.Test.YtghlkpaadahpaaaD
namespace Go.Proofs.Ytghlkpaadahpaaa
open Go.RowKit Fl

def shE (f t d : Int) : Int := if mayB f t = false then 14 else if d < -1125899906842624 ∨ 1125899906842624 < d then 13 else if mayB (f + d) (t + d) = false then 13 else 0
def shF (f t d : Int) : Int := if shE f t d = 0 then f + d else 0
def shT (f t d : Int) : Int := if shE f t d = 0 then t + d else 0
def miE (f t s : Int) : Int := if mayB f t = false then 14 else if s < 0 ∨ 2251799813685248 < s then 13 else if mayB (s - t) (s - f) = false then 13 else 0
def miF (f t s : Int) : Int := if miE f t s = 0 then s - t else 0
def miT (f t s : Int) : Int := if miE f t s = 0 then s - f else 0

set_option maxHeartbeats 1000000 in
theorem shift_any (w : World) (f t d : Int) : Calls Try.prog 26 #[sp f t, .int .i64 d] w (PV (.tuple #[sp (shF f t d) (shT f t d), .int .i64 (shE f t d)]) w) := by
  cases h1 : mayB f t with
  | false =>
    have r1 : shE f t d = 14 := by simp [shE, h1]
    have r2 : shF f t d = 0 := by simp [shF, r1]
    have r3 : shT f t d = 0 := by simp [shT, r1]
    rw [r1, r2, r3]; clear r1 r2 r3
    go_enter Try.func26, Try.ntmps26
    go_wp2_with (go_at_call 15; (with_reducible refine (may_of _ _ _ _ h1).mono ?_); rintro e w1 ⟨rfl, hb⟩; obtain ⟨hc, hf⟩ := bcell hb; have hz := hb.size; (try simp at hz); have z0 : w.heap.size < w1.heap.size := (by omega); have z1 : w.heap.size + 1 < w1.heap.size := (by omega))
    obtain ⟨e0, e1⟩ := ret_slot (W := w.alloc (.cells #[.int .i64 f, .int .i64 t] 23)) (w1 := _) (b := w.heap.size + 1) (T := 23) (a0 := .int .i64 0) (a1 := .int .i64 0) (by simp) (hB := (by show Below _ _ w1; repeat (first | exact Below.refl _ _ | refine Below.alloc ?_ (by first | omega | (simp; done) | (simp; omega)) _ | refine Below.setCell ?_ (by first | omega | (simp; done) | (simp; omega)) _ | refine Below.drew ?_ | refine Below.trans ?_ (Below.mono (by assumption) (by first | omega | (simp; done) | (simp; omega))))))
    exact bodyPost_ret (v := .tuple #[sp 0 0, .int .i64 14]) (by simp [results, Try.results26, go_sem, e0, e1]) rfl ⟨rfl, (by repeat (first | exact Below.refl _ _ | refine Below.alloc ?_ (by first | omega | (simp; done) | (simp; omega)) _ | refine Below.setCell ?_ (by first | omega | (simp; done) | (simp; omega)) _ | refine Below.drew ?_ | refine Below.trans ?_ (Below.mono (by assumption) (by first | omega | (simp; done) | (simp; omega)))))⟩
  | true =>
    obtain ⟨g0, g1, g2, g3, g4⟩ := may_iff.1 h1
    by_cases q1 : d < -1125899906842624
    · skip
      have r1 : shE f t d = 13 := by simp [shE, h1, q1]
      have r2 : shF f t d = 0 := by simp [shF, r1]
      have r3 : shT f t d = 0 := by simp [shT, r1]
      rw [r1, r2, r3]; clear r1 r2 r3
      go_enter Try.func26, Try.ntmps26
      go_wp2_with (go_at_call 15; (with_reducible refine (may_of _ _ _ _ h1).mono ?_); rintro e w1 ⟨rfl, hb⟩; obtain ⟨hc, hf⟩ := bcell hb; have hz := hb.size; (try simp at hz); have z0 : w.heap.size < w1.heap.size := (by omega); have z1 : w.heap.size + 1 < w1.heap.size := (by omega))
      obtain ⟨e0, e1⟩ := ret_slot (W := w.alloc (.cells #[.int .i64 f, .int .i64 t] 23)) (w1 := _) (b := w.heap.size + 1) (T := 23) (a0 := .int .i64 0) (a1 := .int .i64 0) (by simp) (hB := (by show Below _ _ w1; repeat (first | exact Below.refl _ _ | refine Below.alloc ?_ (by first | omega | (simp; done) | (simp; omega)) _ | refine Below.setCell ?_ (by first | omega | (simp; done) | (simp; omega)) _ | refine Below.drew ?_ | refine Below.trans ?_ (Below.mono (by assumption) (by first | omega | (simp; done) | (simp; omega))))))
      exact bodyPost_ret (v := .tuple #[sp 0 0, .int .i64 13]) (by simp [results, Try.results26, go_sem, e0, e1]) rfl ⟨rfl, (by repeat (first | exact Below.refl _ _ | refine Below.alloc ?_ (by first | omega | (simp; done) | (simp; omega)) _ | refine Below.setCell ?_ (by first | omega | (simp; done) | (simp; omega)) _ | refine Below.drew ?_ | refine Below.trans ?_ (Below.mono (by assumption) (by first | omega | (simp; done) | (simp; omega)))))⟩
    by_cases q2 : 1125899906842624 < d
    · skip
      have r1 : shE f t d = 13 := by simp [shE, h1, q2]
      have r2 : shF f t d = 0 := by simp [shF, r1]
      have r3 : shT f t d = 0 := by simp [shT, r1]
      rw [r1, r2, r3]; clear r1 r2 r3
      go_enter Try.func26, Try.ntmps26
      go_wp2_with (go_at_call 15; (with_reducible refine (may_of _ _ _ _ h1).mono ?_); rintro e w1 ⟨rfl, hb⟩; obtain ⟨hc, hf⟩ := bcell hb; have hz := hb.size; (try simp at hz); have z0 : w.heap.size < w1.heap.size := (by omega); have z1 : w.heap.size + 1 < w1.heap.size := (by omega))
      obtain ⟨e0, e1⟩ := ret_slot (W := w.alloc (.cells #[.int .i64 f, .int .i64 t] 23)) (w1 := _) (b := w.heap.size + 1) (T := 23) (a0 := .int .i64 0) (a1 := .int .i64 0) (by simp) (hB := (by show Below _ _ w1; repeat (first | exact Below.refl _ _ | refine Below.alloc ?_ (by first | omega | (simp; done) | (simp; omega)) _ | refine Below.setCell ?_ (by first | omega | (simp; done) | (simp; omega)) _ | refine Below.drew ?_ | refine Below.trans ?_ (Below.mono (by assumption) (by first | omega | (simp; done) | (simp; omega))))))
      exact bodyPost_ret (v := .tuple #[sp 0 0, .int .i64 13]) (by simp [results, Try.results26, go_sem, e0, e1]) rfl ⟨rfl, (by repeat (first | exact Below.refl _ _ | refine Below.alloc ?_ (by first | omega | (simp; done) | (simp; omega)) _ | refine Below.setCell ?_ (by first | omega | (simp; done) | (simp; omega)) _ | refine Below.drew ?_ | refine Below.trans ?_ (Below.mono (by assumption) (by first | omega | (simp; done) | (simp; omega)))))⟩
    have q1' : -1125899906842624 ≤ d := by omega
    have q2' : d ≤ 1125899906842624 := by omega
    cases h3 : mayB (f + d) (t + d) with
    | true =>
      have r1 : shE f t d = 0 := by simp [shE, h1, q1, q2, h3]
      have r2 : shF f t d = f + d := by simp [shF, r1]
      have r3 : shT f t d = t + d := by simp [shT, r1]
      rw [r1, r2, r3]; clear r1 r2 r3
      go_enter Try.func26, Try.ntmps26
      go_wp2_with (first | (go_at_call 15; (with_reducible refine (may_of _ _ _ _ h1).mono ?_); rintro e w1 ⟨rfl, hb⟩; obtain ⟨hc, hf⟩ := bcell hb; have hz := hb.size; (try simp at hz); have z0 : w.heap.size < w1.heap.size := (by omega); have z1 : w.heap.size + 1 < w1.heap.size := (by omega)) | (go_at_call 29; (with_reducible refine (point_any _ f t (by omega) (by omega)).mono ?_); rintro e w1 ⟨a, b, rfl, ha, hb', hb⟩; obtain ⟨hc, hf⟩ := bcell hb; have hz := hb.size; (try simp at hz); have z0 : w.heap.size < w1.heap.size := (by omega); have z1 : w.heap.size + 1 < w1.heap.size := (by omega); obtain ⟨x, hx, fx⟩ := add_FI ha (of_FI (x := d) (by omega)) (by omega); obtain ⟨y, hy, fy⟩ := add_FI hb' (of_FI (x := d) (by omega)) (by omega); have hadd : ∀ w, (binOp .add 42 (.complex .f64 a b) (.complex .f64 (floatOfInt .f64 d) (floatOfInt .f64 d))).run Try.prog w = .ok (.complex .f64 x y) w := (fun w => run_complex_sum w .add (.inl rfl) 42 .f64 a b _ _ x y (by unfold cSumBits; rw [hx, hy]; rfl)); clear hx hy) | (go_at_call 35; (with_reducible refine (moved_yes _ _ _ _ _ fx fy h3).mono ?_); rintro e w1 ⟨rfl, hb⟩; obtain ⟨hc, hf⟩ := bcell hb; have hz := hb.size; (try simp at hz); have z0 : w.heap.size < w1.heap.size := (by omega); have z1 : w.heap.size + 1 < w1.heap.size := (by omega)))
      obtain ⟨e0, e1⟩ := ret_slot (W := w.alloc (.cells #[.int .i64 f, .int .i64 t] 23)) (w1 := _) (b := w.heap.size + 1) (T := 23) (a0 := .int .i64 0) (a1 := .int .i64 0) (by simp) (hB := (by show Below _ _ w1; repeat (first | exact Below.refl _ _ | refine Below.alloc ?_ (by first | omega | (simp; done) | (simp; omega)) _ | refine Below.setCell ?_ (by first | omega | (simp; done) | (simp; omega)) _ | refine Below.drew ?_ | refine Below.trans ?_ (Below.mono (by assumption) (by first | omega | (simp; done) | (simp; omega))))))
      exact bodyPost_ret (v := .tuple #[sp (f + d) (t + d), .int .i64 0]) (by simp [results, Try.results26, go_sem, e0, e1]) rfl ⟨rfl, (by repeat (first | exact Below.refl _ _ | refine Below.alloc ?_ (by first | omega | (simp; done) | (simp; omega)) _ | refine Below.setCell ?_ (by first | omega | (simp; done) | (simp; omega)) _ | refine Below.drew ?_ | refine Below.trans ?_ (Below.mono (by assumption) (by first | omega | (simp; done) | (simp; omega)))))⟩
    | false =>
      have r1 : shE f t d = 13 := by simp [shE, h1, q1, q2, h3]
      have r2 : shF f t d = 0 := by simp [shF, r1]
      have r3 : shT f t d = 0 := by simp [shT, r1]
      rw [r1, r2, r3]; clear r1 r2 r3
      go_enter Try.func26, Try.ntmps26
      go_wp2_with (first | (go_at_call 15; (with_reducible refine (may_of _ _ _ _ h1).mono ?_); rintro e w1 ⟨rfl, hb⟩; obtain ⟨hc, hf⟩ := bcell hb; have hz := hb.size; (try simp at hz); have z0 : w.heap.size < w1.heap.size := (by omega); have z1 : w.heap.size + 1 < w1.heap.size := (by omega)) | (go_at_call 29; (with_reducible refine (point_any _ f t (by omega) (by omega)).mono ?_); rintro e w1 ⟨a, b, rfl, ha, hb', hb⟩; obtain ⟨hc, hf⟩ := bcell hb; have hz := hb.size; (try simp at hz); have z0 : w.heap.size < w1.heap.size := (by omega); have z1 : w.heap.size + 1 < w1.heap.size := (by omega); obtain ⟨x, hx, fx⟩ := add_FI ha (of_FI (x := d) (by omega)) (by omega); obtain ⟨y, hy, fy⟩ := add_FI hb' (of_FI (x := d) (by omega)) (by omega); have hadd : ∀ w, (binOp .add 42 (.complex .f64 a b) (.complex .f64 (floatOfInt .f64 d) (floatOfInt .f64 d))).run Try.prog w = .ok (.complex .f64 x y) w := (fun w => run_complex_sum w .add (.inl rfl) 42 .f64 a b _ _ x y (by unfold cSumBits; rw [hx, hy]; rfl)); clear hx hy) | (go_at_call 35; (with_reducible refine (moved_no _ _ _ _ _ fx fy h3).mono ?_); rintro e w1 ⟨rfl, hb⟩; obtain ⟨hc, hf⟩ := bcell hb; have hz := hb.size; (try simp at hz); have z0 : w.heap.size < w1.heap.size := (by omega); have z1 : w.heap.size + 1 < w1.heap.size := (by omega)))
      obtain ⟨e0, e1⟩ := ret_slot (W := w.alloc (.cells #[.int .i64 f, .int .i64 t] 23)) (w1 := _) (b := w.heap.size + 1) (T := 23) (a0 := .int .i64 0) (a1 := .int .i64 0) (by simp) (hB := (by show Below _ _ w1; repeat (first | exact Below.refl _ _ | refine Below.alloc ?_ (by first | omega | (simp; done) | (simp; omega)) _ | refine Below.setCell ?_ (by first | omega | (simp; done) | (simp; omega)) _ | refine Below.drew ?_ | refine Below.trans ?_ (Below.mono (by assumption) (by first | omega | (simp; done) | (simp; omega))))))
      exact bodyPost_ret (v := .tuple #[sp 0 0, .int .i64 13]) (by simp [results, Try.results26, go_sem, e0, e1]) rfl ⟨rfl, (by repeat (first | exact Below.refl _ _ | refine Below.alloc ?_ (by first | omega | (simp; done) | (simp; omega)) _ | refine Below.setCell ?_ (by first | omega | (simp; done) | (simp; omega)) _ | refine Below.drew ?_ | refine Below.trans ?_ (Below.mono (by assumption) (by first | omega | (simp; done) | (simp; omega)))))⟩

set_option maxHeartbeats 1000000 in
theorem rshift_any (w : World) (f t d : Int) : Calls Try.prog 27 #[sp f t, .int .i64 d] w (PV (.tuple #[sp (shF f t d) (shT f t d), .int .i64 (shE f t d)]) w) := by
  cases h1 : mayB f t with
  | false =>
    have r1 : shE f t d = 14 := by simp [shE, h1]
    have r2 : shF f t d = 0 := by simp [shF, r1]
    have r3 : shT f t d = 0 := by simp [shT, r1]
    rw [r1, r2, r3]; clear r1 r2 r3
    go_enter Try.func27, Try.ntmps27
    go_wp2_with (go_at_call 32; (with_reducible refine (rmay_of _ _ _ _ h1).mono ?_); rintro e w1 ⟨rfl, hb⟩; obtain ⟨hc, hf⟩ := bcell hb; have hz := hb.size; (try simp at hz); have z0 : w.heap.size < w1.heap.size := (by omega); have z1 : w.heap.size + 1 < w1.heap.size := (by omega))
    obtain ⟨e0, e1⟩ := ret_slot (W := w.alloc (.cells #[.int .i64 f, .int .i64 t] 23)) (w1 := _) (b := w.heap.size + 1) (T := 23) (a0 := .int .i64 0) (a1 := .int .i64 0) (by simp) (hB := (by show Below _ _ w1; repeat (first | exact Below.refl _ _ | refine Below.alloc ?_ (by first | omega | (simp; done) | (simp; omega)) _ | refine Below.setCell ?_ (by first | omega | (simp; done) | (simp; omega)) _ | refine Below.drew ?_ | refine Below.trans ?_ (Below.mono (by assumption) (by first | omega | (simp; done) | (simp; omega))))))
    exact bodyPost_ret (v := .tuple #[sp 0 0, .int .i64 14]) (by simp [results, Try.results27, go_sem, e0, e1]) rfl ⟨rfl, (by repeat (first | exact Below.refl _ _ | refine Below.alloc ?_ (by first | omega | (simp; done) | (simp; omega)) _ | refine Below.setCell ?_ (by first | omega | (simp; done) | (simp; omega)) _ | refine Below.drew ?_ | refine Below.trans ?_ (Below.mono (by assumption) (by first | omega | (simp; done) | (simp; omega)))))⟩
  | true =>
    obtain ⟨g0, g1, g2, g3, g4⟩ := may_iff.1 h1
    by_cases q1 : d < -1125899906842624
    · skip
      have r1 : shE f t d = 13 := by simp [shE, h1, q1]
      have r2 : shF f t d = 0 := by simp [shF, r1]
      have r3 : shT f t d = 0 := by simp [shT, r1]
      rw [r1, r2, r3]; clear r1 r2 r3
      go_enter Try.func27, Try.ntmps27
      go_wp2_with (go_at_call 32; (with_reducible refine (rmay_of _ _ _ _ h1).mono ?_); rintro e w1 ⟨rfl, hb⟩; obtain ⟨hc, hf⟩ := bcell hb; have hz := hb.size; (try simp at hz); have z0 : w.heap.size < w1.heap.size := (by omega); have z1 : w.heap.size + 1 < w1.heap.size := (by omega))
      obtain ⟨e0, e1⟩ := ret_slot (W := w.alloc (.cells #[.int .i64 f, .int .i64 t] 23)) (w1 := _) (b := w.heap.size + 1) (T := 23) (a0 := .int .i64 0) (a1 := .int .i64 0) (by simp) (hB := (by show Below _ _ w1; repeat (first | exact Below.refl _ _ | refine Below.alloc ?_ (by first | omega | (simp; done) | (simp; omega)) _ | refine Below.setCell ?_ (by first | omega | (simp; done) | (simp; omega)) _ | refine Below.drew ?_ | refine Below.trans ?_ (Below.mono (by assumption) (by first | omega | (simp; done) | (simp; omega))))))
      exact bodyPost_ret (v := .tuple #[sp 0 0, .int .i64 13]) (by simp [results, Try.results27, go_sem, e0, e1]) rfl ⟨rfl, (by repeat (first | exact Below.refl _ _ | refine Below.alloc ?_ (by first | omega | (simp; done) | (simp; omega)) _ | refine Below.setCell ?_ (by first | omega | (simp; done) | (simp; omega)) _ | refine Below.drew ?_ | refine Below.trans ?_ (Below.mono (by assumption) (by first | omega | (simp; done) | (simp; omega)))))⟩
    by_cases q2 : 1125899906842624 < d
    · skip
      have r1 : shE f t d = 13 := by simp [shE, h1, q2]
      have r2 : shF f t d = 0 := by simp [shF, r1]
      have r3 : shT f t d = 0 := by simp [shT, r1]
      rw [r1, r2, r3]; clear r1 r2 r3
      go_enter Try.func27, Try.ntmps27
      go_wp2_with (go_at_call 32; (with_reducible refine (rmay_of _ _ _ _ h1).mono ?_); rintro e w1 ⟨rfl, hb⟩; obtain ⟨hc, hf⟩ := bcell hb; have hz := hb.size; (try simp at hz); have z0 : w.heap.size < w1.heap.size := (by omega); have z1 : w.heap.size + 1 < w1.heap.size := (by omega))
      obtain ⟨e0, e1⟩ := ret_slot (W := w.alloc (.cells #[.int .i64 f, .int .i64 t] 23)) (w1 := _) (b := w.heap.size + 1) (T := 23) (a0 := .int .i64 0) (a1 := .int .i64 0) (by simp) (hB := (by show Below _ _ w1; repeat (first | exact Below.refl _ _ | refine Below.alloc ?_ (by first | omega | (simp; done) | (simp; omega)) _ | refine Below.setCell ?_ (by first | omega | (simp; done) | (simp; omega)) _ | refine Below.drew ?_ | refine Below.trans ?_ (Below.mono (by assumption) (by first | omega | (simp; done) | (simp; omega))))))
      exact bodyPost_ret (v := .tuple #[sp 0 0, .int .i64 13]) (by simp [results, Try.results27, go_sem, e0, e1]) rfl ⟨rfl, (by repeat (first | exact Below.refl _ _ | refine Below.alloc ?_ (by first | omega | (simp; done) | (simp; omega)) _ | refine Below.setCell ?_ (by first | omega | (simp; done) | (simp; omega)) _ | refine Below.drew ?_ | refine Below.trans ?_ (Below.mono (by assumption) (by first | omega | (simp; done) | (simp; omega)))))⟩
    have q1' : -1125899906842624 ≤ d := by omega
    have q2' : d ≤ 1125899906842624 := by omega
    cases h4 : tickB (f + d) with
    | false =>
      have h3 : mayB (f + d) (t + d) = false := by rw [may_no]; rw [tick_no] at h4; omega
      have r1 : shE f t d = 13 := by simp [shE, h1, q1, q2, h3]
      clear h3
      have r2 : shF f t d = 0 := by simp [shF, r1]
      have r3 : shT f t d = 0 := by simp [shT, r1]
      rw [r1, r2, r3]; clear r1 r2 r3
      go_enter Try.func27, Try.ntmps27
      go_wp2_with (first | (go_at_call 32; (with_reducible refine (rmay_of _ _ _ _ h1).mono ?_); rintro e w1 ⟨rfl, hb⟩; obtain ⟨hc, hf⟩ := bcell hb; have hz := hb.size; (try simp at hz); have z0 : w.heap.size < w1.heap.size := (by omega); have z1 : w.heap.size + 1 < w1.heap.size := (by omega)) | (go_at_call 34; (with_reducible refine (rtick_of _ (f + d) _ h4).mono ?_); rintro e w' ⟨rfl, rfl⟩))
      obtain ⟨e0, e1⟩ := ret_slot (W := w.alloc (.cells #[.int .i64 f, .int .i64 t] 23)) (w1 := _) (b := w.heap.size + 1) (T := 23) (a0 := .int .i64 0) (a1 := .int .i64 0) (by simp) (hB := (by show Below _ _ w1; repeat (first | exact Below.refl _ _ | refine Below.alloc ?_ (by first | omega | (simp; done) | (simp; omega)) _ | refine Below.setCell ?_ (by first | omega | (simp; done) | (simp; omega)) _ | refine Below.drew ?_ | refine Below.trans ?_ (Below.mono (by assumption) (by first | omega | (simp; done) | (simp; omega))))))
      exact bodyPost_ret (v := .tuple #[sp 0 0, .int .i64 13]) (by simp [results, Try.results27, go_sem, e0, e1]) rfl ⟨rfl, (by repeat (first | exact Below.refl _ _ | refine Below.alloc ?_ (by first | omega | (simp; done) | (simp; omega)) _ | refine Below.setCell ?_ (by first | omega | (simp; done) | (simp; omega)) _ | refine Below.drew ?_ | refine Below.trans ?_ (Below.mono (by assumption) (by first | omega | (simp; done) | (simp; omega)))))⟩
    | true =>
      cases h5 : tickB (t + d) with
      | false =>
        have h3 : mayB (f + d) (t + d) = false := by rw [may_no]; rw [tick_no] at h5; omega
        have r1 : shE f t d = 13 := by simp [shE, h1, q1, q2, h3]
        clear h3
        have r2 : shF f t d = 0 := by simp [shF, r1]
        have r3 : shT f t d = 0 := by simp [shT, r1]
        rw [r1, r2, r3]; clear r1 r2 r3
        go_enter Try.func27, Try.ntmps27
        go_wp2_with (first | (go_at_call 32; (with_reducible refine (rmay_of _ _ _ _ h1).mono ?_); rintro e w1 ⟨rfl, hb⟩; obtain ⟨hc, hf⟩ := bcell hb; have hz := hb.size; (try simp at hz); have z0 : w.heap.size < w1.heap.size := (by omega); have z1 : w.heap.size + 1 < w1.heap.size := (by omega)) | (go_at_call 34; (with_reducible refine (rtick_of _ (f + d) _ h4).mono ?_); rintro e w' ⟨rfl, rfl⟩) | (go_at_call 34; (with_reducible refine (rtick_of _ (t + d) _ h5).mono ?_); rintro e w' ⟨rfl, rfl⟩))
        obtain ⟨e0, e1⟩ := ret_slot (W := w.alloc (.cells #[.int .i64 f, .int .i64 t] 23)) (w1 := _) (b := w.heap.size + 1) (T := 23) (a0 := .int .i64 0) (a1 := .int .i64 0) (by simp) (hB := (by show Below _ _ w1; repeat (first | exact Below.refl _ _ | refine Below.alloc ?_ (by first | omega | (simp; done) | (simp; omega)) _ | refine Below.setCell ?_ (by first | omega | (simp; done) | (simp; omega)) _ | refine Below.drew ?_ | refine Below.trans ?_ (Below.mono (by assumption) (by first | omega | (simp; done) | (simp; omega))))))
        exact bodyPost_ret (v := .tuple #[sp 0 0, .int .i64 13]) (by simp [results, Try.results27, go_sem, e0, e1]) rfl ⟨rfl, (by repeat (first | exact Below.refl _ _ | refine Below.alloc ?_ (by first | omega | (simp; done) | (simp; omega)) _ | refine Below.setCell ?_ (by first | omega | (simp; done) | (simp; omega)) _ | refine Below.drew ?_ | refine Below.trans ?_ (Below.mono (by assumption) (by first | omega | (simp; done) | (simp; omega)))))⟩
      | true =>
        have h3 : mayB (f + d) (t + d) = true := by rw [may_iff]; rw [tick_iff] at h4 h5; omega
        have r1 : shE f t d = 0 := by simp [shE, h1, q1, q2, h3]
        clear h3
        have r2 : shF f t d = f + d := by simp [shF, r1]
        have r3 : shT f t d = t + d := by simp [shT, r1]
        rw [r1, r2, r3]; clear r1 r2 r3
        go_enter Try.func27, Try.ntmps27
        go_wp2_with (first | (go_at_call 32; (with_reducible refine (rmay_of _ _ _ _ h1).mono ?_); rintro e w1 ⟨rfl, hb⟩; obtain ⟨hc, hf⟩ := bcell hb; have hz := hb.size; (try simp at hz); have z0 : w.heap.size < w1.heap.size := (by omega); have z1 : w.heap.size + 1 < w1.heap.size := (by omega)) | (go_at_call 34; (with_reducible refine (rtick_of _ (f + d) _ h4).mono ?_); rintro e w' ⟨rfl, rfl⟩) | (go_at_call 34; (with_reducible refine (rtick_of _ (t + d) _ h5).mono ?_); rintro e w' ⟨rfl, rfl⟩))
        obtain ⟨e0, e1⟩ := ret_slot (W := w.alloc (.cells #[.int .i64 f, .int .i64 t] 23)) (w1 := _) (b := w.heap.size + 1) (T := 23) (a0 := .int .i64 0) (a1 := .int .i64 0) (by simp) (hB := (by show Below _ _ w1; repeat (first | exact Below.refl _ _ | refine Below.alloc ?_ (by first | omega | (simp; done) | (simp; omega)) _ | refine Below.setCell ?_ (by first | omega | (simp; done) | (simp; omega)) _ | refine Below.drew ?_ | refine Below.trans ?_ (Below.mono (by assumption) (by first | omega | (simp; done) | (simp; omega))))))
        exact bodyPost_ret (v := .tuple #[sp (f + d) (t + d), .int .i64 0]) (by simp [results, Try.results27, go_sem, e0, e1]) rfl ⟨rfl, (by repeat (first | exact Below.refl _ _ | refine Below.alloc ?_ (by first | omega | (simp; done) | (simp; omega)) _ | refine Below.setCell ?_ (by first | omega | (simp; done) | (simp; omega)) _ | refine Below.drew ?_ | refine Below.trans ?_ (Below.mono (by assumption) (by first | omega | (simp; done) | (simp; omega)))))⟩

set_option maxHeartbeats 1000000 in
theorem mirror_any (w : World) (f t d : Int) : Calls Try.prog 19 #[sp f t, .int .i64 d] w (PV (.tuple #[sp (miF f t d) (miT f t d), .int .i64 (miE f t d)]) w) := by
  cases h1 : mayB f t with
  | false =>
    have r1 : miE f t d = 14 := by simp [miE, h1]
    have r2 : miF f t d = 0 := by simp [miF, r1]
    have r3 : miT f t d = 0 := by simp [miT, r1]
    rw [r1, r2, r3]; clear r1 r2 r3
    go_enter Try.func19, Try.ntmps19
    go_wp2_with (go_at_call 15; (with_reducible refine (may_of _ _ _ _ h1).mono ?_); rintro e w1 ⟨rfl, hb⟩; obtain ⟨hc, hf⟩ := bcell hb; have hz := hb.size; (try simp at hz); have z0 : w.heap.size < w1.heap.size := (by omega); have z1 : w.heap.size + 1 < w1.heap.size := (by omega))
    obtain ⟨e0, e1⟩ := ret_slot (W := w.alloc (.cells #[.int .i64 f, .int .i64 t] 23)) (w1 := _) (b := w.heap.size + 1) (T := 23) (a0 := .int .i64 0) (a1 := .int .i64 0) (by simp) (hB := (by show Below _ _ w1; repeat (first | exact Below.refl _ _ | refine Below.alloc ?_ (by first | omega | (simp; done) | (simp; omega)) _ | refine Below.setCell ?_ (by first | omega | (simp; done) | (simp; omega)) _ | refine Below.drew ?_ | refine Below.trans ?_ (Below.mono (by assumption) (by first | omega | (simp; done) | (simp; omega))))))
    exact bodyPost_ret (v := .tuple #[sp 0 0, .int .i64 14]) (by simp [results, Try.results19, go_sem, e0, e1]) rfl ⟨rfl, (by repeat (first | exact Below.refl _ _ | refine Below.alloc ?_ (by first | omega | (simp; done) | (simp; omega)) _ | refine Below.setCell ?_ (by first | omega | (simp; done) | (simp; omega)) _ | refine Below.drew ?_ | refine Below.trans ?_ (Below.mono (by assumption) (by first | omega | (simp; done) | (simp; omega)))))⟩
  | true =>
    obtain ⟨g0, g1, g2, g3, g4⟩ := may_iff.1 h1
    by_cases q1 : d < 0
    · skip
      have r1 : miE f t d = 13 := by simp [miE, h1, q1]
      have r2 : miF f t d = 0 := by simp [miF, r1]
      have r3 : miT f t d = 0 := by simp [miT, r1]
      rw [r1, r2, r3]; clear r1 r2 r3
      go_enter Try.func19, Try.ntmps19
      go_wp2_with (go_at_call 15; (with_reducible refine (may_of _ _ _ _ h1).mono ?_); rintro e w1 ⟨rfl, hb⟩; obtain ⟨hc, hf⟩ := bcell hb; have hz := hb.size; (try simp at hz); have z0 : w.heap.size < w1.heap.size := (by omega); have z1 : w.heap.size + 1 < w1.heap.size := (by omega))
      obtain ⟨e0, e1⟩ := ret_slot (W := w.alloc (.cells #[.int .i64 f, .int .i64 t] 23)) (w1 := _) (b := w.heap.size + 1) (T := 23) (a0 := .int .i64 0) (a1 := .int .i64 0) (by simp) (hB := (by show Below _ _ w1; repeat (first | exact Below.refl _ _ | refine Below.alloc ?_ (by first | omega | (simp; done) | (simp; omega)) _ | refine Below.setCell ?_ (by first | omega | (simp; done) | (simp; omega)) _ | refine Below.drew ?_ | refine Below.trans ?_ (Below.mono (by assumption) (by first | omega | (simp; done) | (simp; omega))))))
      exact bodyPost_ret (v := .tuple #[sp 0 0, .int .i64 13]) (by simp [results, Try.results19, go_sem, e0, e1]) rfl ⟨rfl, (by repeat (first | exact Below.refl _ _ | refine Below.alloc ?_ (by first | omega | (simp; done) | (simp; omega)) _ | refine Below.setCell ?_ (by first | omega | (simp; done) | (simp; omega)) _ | refine Below.drew ?_ | refine Below.trans ?_ (Below.mono (by assumption) (by first | omega | (simp; done) | (simp; omega)))))⟩
    by_cases q2 : 2251799813685248 < d
    · skip
      have r1 : miE f t d = 13 := by simp [miE, h1, q2]
      have r2 : miF f t d = 0 := by simp [miF, r1]
      have r3 : miT f t d = 0 := by simp [miT, r1]
      rw [r1, r2, r3]; clear r1 r2 r3
      go_enter Try.func19, Try.ntmps19
      go_wp2_with (go_at_call 15; (with_reducible refine (may_of _ _ _ _ h1).mono ?_); rintro e w1 ⟨rfl, hb⟩; obtain ⟨hc, hf⟩ := bcell hb; have hz := hb.size; (try simp at hz); have z0 : w.heap.size < w1.heap.size := (by omega); have z1 : w.heap.size + 1 < w1.heap.size := (by omega))
      obtain ⟨e0, e1⟩ := ret_slot (W := w.alloc (.cells #[.int .i64 f, .int .i64 t] 23)) (w1 := _) (b := w.heap.size + 1) (T := 23) (a0 := .int .i64 0) (a1 := .int .i64 0) (by simp) (hB := (by show Below _ _ w1; repeat (first | exact Below.refl _ _ | refine Below.alloc ?_ (by first | omega | (simp; done) | (simp; omega)) _ | refine Below.setCell ?_ (by first | omega | (simp; done) | (simp; omega)) _ | refine Below.drew ?_ | refine Below.trans ?_ (Below.mono (by assumption) (by first | omega | (simp; done) | (simp; omega))))))
      exact bodyPost_ret (v := .tuple #[sp 0 0, .int .i64 13]) (by simp [results, Try.results19, go_sem, e0, e1]) rfl ⟨rfl, (by repeat (first | exact Below.refl _ _ | refine Below.alloc ?_ (by first | omega | (simp; done) | (simp; omega)) _ | refine Below.setCell ?_ (by first | omega | (simp; done) | (simp; omega)) _ | refine Below.drew ?_ | refine Below.trans ?_ (Below.mono (by assumption) (by first | omega | (simp; done) | (simp; omega)))))⟩
    have q1' : 0 ≤ d := by omega
    have q2' : d ≤ 2251799813685248 := by omega
    cases h3 : mayB (d - t) (d - f) with
    | true =>
      have r1 : miE f t d = 0 := by simp [miE, h1, q1, q2, h3]
      have r2 : miF f t d = d - t := by simp [miF, r1]
      have r3 : miT f t d = d - f := by simp [miT, r1]
      rw [r1, r2, r3]; clear r1 r2 r3
      go_enter Try.func19, Try.ntmps19
      go_wp2_with (first | (go_at_call 15; (with_reducible refine (may_of _ _ _ _ h1).mono ?_); rintro e w1 ⟨rfl, hb⟩; obtain ⟨hc, hf⟩ := bcell hb; have hz := hb.size; (try simp at hz); have z0 : w.heap.size < w1.heap.size := (by omega); have z1 : w.heap.size + 1 < w1.heap.size := (by omega)) | (go_at_call 29; (with_reducible refine (point_any _ f t (by omega) (by omega)).mono ?_); rintro e w1 ⟨a, b, rfl, ha, hb', hb⟩; obtain ⟨hc, hf⟩ := bcell hb; have hz := hb.size; (try simp at hz); have z0 : w.heap.size < w1.heap.size := (by omega); have z1 : w.heap.size + 1 < w1.heap.size := (by omega)) | (go_at_call 30; (with_reducible refine (swap_any _ _ _ f t ha hb').mono ?_); rintro e w' ⟨a, b, rfl, ha, hb', rfl⟩; obtain ⟨x, hx, fx⟩ := sub_FI (of_FI (x := d) (by omega)) ha (by omega); obtain ⟨y, hy, fy⟩ := sub_FI (of_FI (x := d) (by omega)) hb' (by omega); have hsub : ∀ w, (binOp .sub 42 (.complex .f64 (floatOfInt .f64 d) (floatOfInt .f64 d)) (.complex .f64 a b)).run Try.prog w = .ok (.complex .f64 x y) w := (fun w => run_complex_sum w .sub (.inr rfl) 42 .f64 _ _ a b x y (by unfold cSumBits; rw [hx, hy]; rfl)); clear hx hy) | (go_at_call 35; (with_reducible refine (moved_yes _ _ _ _ _ fx fy h3).mono ?_); rintro e w1 ⟨rfl, hb⟩; obtain ⟨hc, hf⟩ := bcell hb; have hz := hb.size; (try simp at hz); have z0 : w.heap.size < w1.heap.size := (by omega); have z1 : w.heap.size + 1 < w1.heap.size := (by omega)))
      obtain ⟨e0, e1⟩ := ret_slot (W := w.alloc (.cells #[.int .i64 f, .int .i64 t] 23)) (w1 := _) (b := w.heap.size + 1) (T := 23) (a0 := .int .i64 0) (a1 := .int .i64 0) (by simp) (hB := (by show Below _ _ w1; repeat (first | exact Below.refl _ _ | refine Below.alloc ?_ (by first | omega | (simp; done) | (simp; omega)) _ | refine Below.setCell ?_ (by first | omega | (simp; done) | (simp; omega)) _ | refine Below.drew ?_ | refine Below.trans ?_ (Below.mono (by assumption) (by first | omega | (simp; done) | (simp; omega))))))
      exact bodyPost_ret (v := .tuple #[sp (d - t) (d - f), .int .i64 0]) (by simp [results, Try.results19, go_sem, e0, e1]) rfl ⟨rfl, (by repeat (first | exact Below.refl _ _ | refine Below.alloc ?_ (by first | omega | (simp; done) | (simp; omega)) _ | refine Below.setCell ?_ (by first | omega | (simp; done) | (simp; omega)) _ | refine Below.drew ?_ | refine Below.trans ?_ (Below.mono (by assumption) (by first | omega | (simp; done) | (simp; omega)))))⟩
    | false =>
      have r1 : miE f t d = 13 := by simp [miE, h1, q1, q2, h3]
      have r2 : miF f t d = 0 := by simp [miF, r1]
      have r3 : miT f t d = 0 := by simp [miT, r1]
      rw [r1, r2, r3]; clear r1 r2 r3
      go_enter Try.func19, Try.ntmps19
      go_wp2_with (first | (go_at_call 15; (with_reducible refine (may_of _ _ _ _ h1).mono ?_); rintro e w1 ⟨rfl, hb⟩; obtain ⟨hc, hf⟩ := bcell hb; have hz := hb.size; (try simp at hz); have z0 : w.heap.size < w1.heap.size := (by omega); have z1 : w.heap.size + 1 < w1.heap.size := (by omega)) | (go_at_call 29; (with_reducible refine (point_any _ f t (by omega) (by omega)).mono ?_); rintro e w1 ⟨a, b, rfl, ha, hb', hb⟩; obtain ⟨hc, hf⟩ := bcell hb; have hz := hb.size; (try simp at hz); have z0 : w.heap.size < w1.heap.size := (by omega); have z1 : w.heap.size + 1 < w1.heap.size := (by omega)) | (go_at_call 30; (with_reducible refine (swap_any _ _ _ f t ha hb').mono ?_); rintro e w' ⟨a, b, rfl, ha, hb', rfl⟩; obtain ⟨x, hx, fx⟩ := sub_FI (of_FI (x := d) (by omega)) ha (by omega); obtain ⟨y, hy, fy⟩ := sub_FI (of_FI (x := d) (by omega)) hb' (by omega); have hsub : ∀ w, (binOp .sub 42 (.complex .f64 (floatOfInt .f64 d) (floatOfInt .f64 d)) (.complex .f64 a b)).run Try.prog w = .ok (.complex .f64 x y) w := (fun w => run_complex_sum w .sub (.inr rfl) 42 .f64 _ _ a b x y (by unfold cSumBits; rw [hx, hy]; rfl)); clear hx hy) | (go_at_call 35; (with_reducible refine (moved_no _ _ _ _ _ fx fy h3).mono ?_); rintro e w1 ⟨rfl, hb⟩; obtain ⟨hc, hf⟩ := bcell hb; have hz := hb.size; (try simp at hz); have z0 : w.heap.size < w1.heap.size := (by omega); have z1 : w.heap.size + 1 < w1.heap.size := (by omega)))
      obtain ⟨e0, e1⟩ := ret_slot (W := w.alloc (.cells #[.int .i64 f, .int .i64 t] 23)) (w1 := _) (b := w.heap.size + 1) (T := 23) (a0 := .int .i64 0) (a1 := .int .i64 0) (by simp) (hB := (by show Below _ _ w1; repeat (first | exact Below.refl _ _ | refine Below.alloc ?_ (by first | omega | (simp; done) | (simp; omega)) _ | refine Below.setCell ?_ (by first | omega | (simp; done) | (simp; omega)) _ | refine Below.drew ?_ | refine Below.trans ?_ (Below.mono (by assumption) (by first | omega | (simp; done) | (simp; omega))))))
      exact bodyPost_ret (v := .tuple #[sp 0 0, .int .i64 13]) (by simp [results, Try.results19, go_sem, e0, e1]) rfl ⟨rfl, (by repeat (first | exact Below.refl _ _ | refine Below.alloc ?_ (by first | omega | (simp; done) | (simp; omega)) _ | refine Below.setCell ?_ (by first | omega | (simp; done) | (simp; omega)) _ | refine Below.drew ?_ | refine Below.trans ?_ (Below.mono (by assumption) (by first | omega | (simp; done) | (simp; omega)))))⟩

set_option maxHeartbeats 1000000 in
theorem rmirror_any (w : World) (f t d : Int) : Calls Try.prog 28 #[sp f t, .int .i64 d] w (PV (.tuple #[sp (miF f t d) (miT f t d), .int .i64 (miE f t d)]) w) := by
  cases h1 : mayB f t with
  | false =>
    have r1 : miE f t d = 14 := by simp [miE, h1]
    have r2 : miF f t d = 0 := by simp [miF, r1]
    have r3 : miT f t d = 0 := by simp [miT, r1]
    rw [r1, r2, r3]; clear r1 r2 r3
    go_enter Try.func28, Try.ntmps28
    go_wp2_with (go_at_call 32; (with_reducible refine (rmay_of _ _ _ _ h1).mono ?_); rintro e w1 ⟨rfl, hb⟩; obtain ⟨hc, hf⟩ := bcell hb; have hz := hb.size; (try simp at hz); have z0 : w.heap.size < w1.heap.size := (by omega); have z1 : w.heap.size + 1 < w1.heap.size := (by omega))
    obtain ⟨e0, e1⟩ := ret_slot (W := w.alloc (.cells #[.int .i64 f, .int .i64 t] 23)) (w1 := _) (b := w.heap.size + 1) (T := 23) (a0 := .int .i64 0) (a1 := .int .i64 0) (by simp) (hB := (by show Below _ _ w1; repeat (first | exact Below.refl _ _ | refine Below.alloc ?_ (by first | omega | (simp; done) | (simp; omega)) _ | refine Below.setCell ?_ (by first | omega | (simp; done) | (simp; omega)) _ | refine Below.drew ?_ | refine Below.trans ?_ (Below.mono (by assumption) (by first | omega | (simp; done) | (simp; omega))))))
    exact bodyPost_ret (v := .tuple #[sp 0 0, .int .i64 14]) (by simp [results, Try.results28, go_sem, e0, e1]) rfl ⟨rfl, (by repeat (first | exact Below.refl _ _ | refine Below.alloc ?_ (by first | omega | (simp; done) | (simp; omega)) _ | refine Below.setCell ?_ (by first | omega | (simp; done) | (simp; omega)) _ | refine Below.drew ?_ | refine Below.trans ?_ (Below.mono (by assumption) (by first | omega | (simp; done) | (simp; omega)))))⟩
  | true =>
    obtain ⟨g0, g1, g2, g3, g4⟩ := may_iff.1 h1
    by_cases q1 : d < 0
    · skip
      have r1 : miE f t d = 13 := by simp [miE, h1, q1]
      have r2 : miF f t d = 0 := by simp [miF, r1]
      have r3 : miT f t d = 0 := by simp [miT, r1]
      rw [r1, r2, r3]; clear r1 r2 r3
      go_enter Try.func28, Try.ntmps28
      go_wp2_with (go_at_call 32; (with_reducible refine (rmay_of _ _ _ _ h1).mono ?_); rintro e w1 ⟨rfl, hb⟩; obtain ⟨hc, hf⟩ := bcell hb; have hz := hb.size; (try simp at hz); have z0 : w.heap.size < w1.heap.size := (by omega); have z1 : w.heap.size + 1 < w1.heap.size := (by omega))
      obtain ⟨e0, e1⟩ := ret_slot (W := w.alloc (.cells #[.int .i64 f, .int .i64 t] 23)) (w1 := _) (b := w.heap.size + 1) (T := 23) (a0 := .int .i64 0) (a1 := .int .i64 0) (by simp) (hB := (by show Below _ _ w1; repeat (first | exact Below.refl _ _ | refine Below.alloc ?_ (by first | omega | (simp; done) | (simp; omega)) _ | refine Below.setCell ?_ (by first | omega | (simp; done) | (simp; omega)) _ | refine Below.drew ?_ | refine Below.trans ?_ (Below.mono (by assumption) (by first | omega | (simp; done) | (simp; omega))))))
      exact bodyPost_ret (v := .tuple #[sp 0 0, .int .i64 13]) (by simp [results, Try.results28, go_sem, e0, e1]) rfl ⟨rfl, (by repeat (first | exact Below.refl _ _ | refine Below.alloc ?_ (by first | omega | (simp; done) | (simp; omega)) _ | refine Below.setCell ?_ (by first | omega | (simp; done) | (simp; omega)) _ | refine Below.drew ?_ | refine Below.trans ?_ (Below.mono (by assumption) (by first | omega | (simp; done) | (simp; omega)))))⟩
    by_cases q2 : 2251799813685248 < d
    · skip
      have r1 : miE f t d = 13 := by simp [miE, h1, q2]
      have r2 : miF f t d = 0 := by simp [miF, r1]
      have r3 : miT f t d = 0 := by simp [miT, r1]
      rw [r1, r2, r3]; clear r1 r2 r3
      go_enter Try.func28, Try.ntmps28
      go_wp2_with (go_at_call 32; (with_reducible refine (rmay_of _ _ _ _ h1).mono ?_); rintro e w1 ⟨rfl, hb⟩; obtain ⟨hc, hf⟩ := bcell hb; have hz := hb.size; (try simp at hz); have z0 : w.heap.size < w1.heap.size := (by omega); have z1 : w.heap.size + 1 < w1.heap.size := (by omega))
      obtain ⟨e0, e1⟩ := ret_slot (W := w.alloc (.cells #[.int .i64 f, .int .i64 t] 23)) (w1 := _) (b := w.heap.size + 1) (T := 23) (a0 := .int .i64 0) (a1 := .int .i64 0) (by simp) (hB := (by show Below _ _ w1; repeat (first | exact Below.refl _ _ | refine Below.alloc ?_ (by first | omega | (simp; done) | (simp; omega)) _ | refine Below.setCell ?_ (by first | omega | (simp; done) | (simp; omega)) _ | refine Below.drew ?_ | refine Below.trans ?_ (Below.mono (by assumption) (by first | omega | (simp; done) | (simp; omega))))))
      exact bodyPost_ret (v := .tuple #[sp 0 0, .int .i64 13]) (by simp [results, Try.results28, go_sem, e0, e1]) rfl ⟨rfl, (by repeat (first | exact Below.refl _ _ | refine Below.alloc ?_ (by first | omega | (simp; done) | (simp; omega)) _ | refine Below.setCell ?_ (by first | omega | (simp; done) | (simp; omega)) _ | refine Below.drew ?_ | refine Below.trans ?_ (Below.mono (by assumption) (by first | omega | (simp; done) | (simp; omega)))))⟩
    have q1' : 0 ≤ d := by omega
    have q2' : d ≤ 2251799813685248 := by omega
    cases h4 : tickB (d - t) with
    | false =>
      have h3 : mayB (d - t) (d - f) = false := by rw [may_no]; rw [tick_no] at h4; omega
      have r1 : miE f t d = 13 := by simp [miE, h1, q1, q2, h3]
      clear h3
      have r2 : miF f t d = 0 := by simp [miF, r1]
      have r3 : miT f t d = 0 := by simp [miT, r1]
      rw [r1, r2, r3]; clear r1 r2 r3
      go_enter Try.func28, Try.ntmps28
      go_wp2_with (first | (go_at_call 32; (with_reducible refine (rmay_of _ _ _ _ h1).mono ?_); rintro e w1 ⟨rfl, hb⟩; obtain ⟨hc, hf⟩ := bcell hb; have hz := hb.size; (try simp at hz); have z0 : w.heap.size < w1.heap.size := (by omega); have z1 : w.heap.size + 1 < w1.heap.size := (by omega)) | (go_at_call 34; (with_reducible refine (rtick_of _ (d - t) _ h4).mono ?_); rintro e w' ⟨rfl, rfl⟩))
      obtain ⟨e0, e1⟩ := ret_slot (W := w.alloc (.cells #[.int .i64 f, .int .i64 t] 23)) (w1 := _) (b := w.heap.size + 1) (T := 23) (a0 := .int .i64 0) (a1 := .int .i64 0) (by simp) (hB := (by show Below _ _ w1; repeat (first | exact Below.refl _ _ | refine Below.alloc ?_ (by first | omega | (simp; done) | (simp; omega)) _ | refine Below.setCell ?_ (by first | omega | (simp; done) | (simp; omega)) _ | refine Below.drew ?_ | refine Below.trans ?_ (Below.mono (by assumption) (by first | omega | (simp; done) | (simp; omega))))))
      exact bodyPost_ret (v := .tuple #[sp 0 0, .int .i64 13]) (by simp [results, Try.results28, go_sem, e0, e1]) rfl ⟨rfl, (by repeat (first | exact Below.refl _ _ | refine Below.alloc ?_ (by first | omega | (simp; done) | (simp; omega)) _ | refine Below.setCell ?_ (by first | omega | (simp; done) | (simp; omega)) _ | refine Below.drew ?_ | refine Below.trans ?_ (Below.mono (by assumption) (by first | omega | (simp; done) | (simp; omega)))))⟩
    | true =>
      cases h5 : tickB (d - f) with
      | false =>
        have h3 : mayB (d - t) (d - f) = false := by rw [may_no]; rw [tick_no] at h5; omega
        have r1 : miE f t d = 13 := by simp [miE, h1, q1, q2, h3]
        clear h3
        have r2 : miF f t d = 0 := by simp [miF, r1]
        have r3 : miT f t d = 0 := by simp [miT, r1]
        rw [r1, r2, r3]; clear r1 r2 r3
        go_enter Try.func28, Try.ntmps28
        go_wp2_with (first | (go_at_call 32; (with_reducible refine (rmay_of _ _ _ _ h1).mono ?_); rintro e w1 ⟨rfl, hb⟩; obtain ⟨hc, hf⟩ := bcell hb; have hz := hb.size; (try simp at hz); have z0 : w.heap.size < w1.heap.size := (by omega); have z1 : w.heap.size + 1 < w1.heap.size := (by omega)) | (go_at_call 34; (with_reducible refine (rtick_of _ (d - t) _ h4).mono ?_); rintro e w' ⟨rfl, rfl⟩) | (go_at_call 34; (with_reducible refine (rtick_of _ (d - f) _ h5).mono ?_); rintro e w' ⟨rfl, rfl⟩))
        obtain ⟨e0, e1⟩ := ret_slot (W := w.alloc (.cells #[.int .i64 f, .int .i64 t] 23)) (w1 := _) (b := w.heap.size + 1) (T := 23) (a0 := .int .i64 0) (a1 := .int .i64 0) (by simp) (hB := (by show Below _ _ w1; repeat (first | exact Below.refl _ _ | refine Below.alloc ?_ (by first | omega | (simp; done) | (simp; omega)) _ | refine Below.setCell ?_ (by first | omega | (simp; done) | (simp; omega)) _ | refine Below.drew ?_ | refine Below.trans ?_ (Below.mono (by assumption) (by first | omega | (simp; done) | (simp; omega))))))
        exact bodyPost_ret (v := .tuple #[sp 0 0, .int .i64 13]) (by simp [results, Try.results28, go_sem, e0, e1]) rfl ⟨rfl, (by repeat (first | exact Below.refl _ _ | refine Below.alloc ?_ (by first | omega | (simp; done) | (simp; omega)) _ | refine Below.setCell ?_ (by first | omega | (simp; done) | (simp; omega)) _ | refine Below.drew ?_ | refine Below.trans ?_ (Below.mono (by assumption) (by first | omega | (simp; done) | (simp; omega)))))⟩
      | true =>
        have h3 : mayB (d - t) (d - f) = true := by rw [may_iff]; rw [tick_iff] at h4 h5; omega
        have r1 : miE f t d = 0 := by simp [miE, h1, q1, q2, h3]
        clear h3
        have r2 : miF f t d = d - t := by simp [miF, r1]
        have r3 : miT f t d = d - f := by simp [miT, r1]
        rw [r1, r2, r3]; clear r1 r2 r3
        go_enter Try.func28, Try.ntmps28
        go_wp2_with (first | (go_at_call 32; (with_reducible refine (rmay_of _ _ _ _ h1).mono ?_); rintro e w1 ⟨rfl, hb⟩; obtain ⟨hc, hf⟩ := bcell hb; have hz := hb.size; (try simp at hz); have z0 : w.heap.size < w1.heap.size := (by omega); have z1 : w.heap.size + 1 < w1.heap.size := (by omega)) | (go_at_call 34; (with_reducible refine (rtick_of _ (d - t) _ h4).mono ?_); rintro e w' ⟨rfl, rfl⟩) | (go_at_call 34; (with_reducible refine (rtick_of _ (d - f) _ h5).mono ?_); rintro e w' ⟨rfl, rfl⟩))
        obtain ⟨e0, e1⟩ := ret_slot (W := w.alloc (.cells #[.int .i64 f, .int .i64 t] 23)) (w1 := _) (b := w.heap.size + 1) (T := 23) (a0 := .int .i64 0) (a1 := .int .i64 0) (by simp) (hB := (by show Below _ _ w1; repeat (first | exact Below.refl _ _ | refine Below.alloc ?_ (by first | omega | (simp; done) | (simp; omega)) _ | refine Below.setCell ?_ (by first | omega | (simp; done) | (simp; omega)) _ | refine Below.drew ?_ | refine Below.trans ?_ (Below.mono (by assumption) (by first | omega | (simp; done) | (simp; omega))))))
        exact bodyPost_ret (v := .tuple #[sp (d - t) (d - f), .int .i64 0]) (by simp [results, Try.results28, go_sem, e0, e1]) rfl ⟨rfl, (by repeat (first | exact Below.refl _ _ | refine Below.alloc ?_ (by first | omega | (simp; done) | (simp; omega)) _ | refine Below.setCell ?_ (by first | omega | (simp; done) | (simp; omega)) _ | refine Below.drew ?_ | refine Below.trans ?_ (Below.mono (by assumption) (by first | omega | (simp; done) | (simp; omega)))))⟩

end Go.Proofs.Ytghlkpaadahpaaa
