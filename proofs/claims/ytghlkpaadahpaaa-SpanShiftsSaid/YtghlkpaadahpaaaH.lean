/- Contracts of the reference's Relate, and of live. -/
import Derived.Test.YtghlkpaadahpaaaG
namespace Go.Proofs.Ytghlkpaadahpaaa
open Go.RowKit Fl

set_option maxHeartbeats 2000000 in
theorem rrelate_1 (w : World) (a b c d : Int) (h1 : mayB a b = true) (h2 : mayB c d = true) (hx0 : b < c) : Calls Try.prog 11 #[sp a b, sp c d] w (PV (.tuple #[.int .i64 1, .int .i64 0]) w) := by

  obtain ⟨g0, g1, g2, g3, g4⟩ := may_iff.1 h1
  obtain ⟨k0, k1, k2, k3, k4⟩ := may_iff.1 h2
  have t1 : (b == c) = false := by simp; omega
  have t2 : (a == d) = false := by simp; omega
  have t3 : (a == c) = false := by simp; omega
  have t4 : (b == d) = false := by simp; omega
  have u1 : b < c := by have := hx0; omega
  have u2 : ¬ d < a := by omega
  have u3 : ¬ c < a := by omega
  have u4 : ¬ d < b := by omega
  clear hx0
  go_enter Try.func11, Try.ntmps11
  go_wp2_with (first | (go_at_call 32; (with_reducible refine (rmay_of _ _ _ _ h1).mono ?_); rintro e w1 ⟨rfl, hb⟩; obtain ⟨hc, hf⟩ := bcell hb; have hz := hb.size; (try simp at hz); have z0 : w.heap.size < w1.heap.size := (by omega); have z1 : w.heap.size + 1 < w1.heap.size := (by omega)) | (go_at_call 32; (with_reducible refine (rmay_of _ _ _ _ h2).mono ?_); rintro e w1 ⟨rfl, hb⟩; obtain ⟨hc, hf⟩ := bcell hb; have hz := hb.size; (try simp at hz); have z0 : w.heap.size < w1.heap.size := (by omega); have z1 : w.heap.size + 1 < w1.heap.size := (by omega)))
  go_ret2
  exact ⟨rfl, (by repeat (first | exact Below.refl _ _ | refine Below.alloc ?_ (by first | omega | (simp; done) | (simp; omega)) _ | refine Below.setCell ?_ (by first | omega | (simp; done) | (simp; omega)) _ | refine Below.drew ?_ | refine Below.trans ?_ (Below.mono (by assumption) (by first | omega | (simp; done) | (simp; omega)))))⟩

set_option maxHeartbeats 2000000 in
theorem rrelate_2 (w : World) (a b c d : Int) (h1 : mayB a b = true) (h2 : mayB c d = true) (hx0 : b = c) : Calls Try.prog 11 #[sp a b, sp c d] w (PV (.tuple #[.int .i64 2, .int .i64 0]) w) := by

  obtain ⟨g0, g1, g2, g3, g4⟩ := may_iff.1 h1
  obtain ⟨k0, k1, k2, k3, k4⟩ := may_iff.1 h2
  have t1 : (b == c) = true := by simp; omega
  have t2 : (a == d) = false := by simp; omega
  have t3 : (a == c) = false := by simp; omega
  have t4 : (b == d) = false := by simp; omega
  have u1 : ¬ b < c := by have := hx0; omega
  have u2 : ¬ d < a := by omega
  have u3 : ¬ c < a := by omega
  have u4 : ¬ d < b := by omega
  clear hx0
  go_enter Try.func11, Try.ntmps11
  go_wp2_with (first | (go_at_call 32; (with_reducible refine (rmay_of _ _ _ _ h1).mono ?_); rintro e w1 ⟨rfl, hb⟩; obtain ⟨hc, hf⟩ := bcell hb; have hz := hb.size; (try simp at hz); have z0 : w.heap.size < w1.heap.size := (by omega); have z1 : w.heap.size + 1 < w1.heap.size := (by omega)) | (go_at_call 32; (with_reducible refine (rmay_of _ _ _ _ h2).mono ?_); rintro e w1 ⟨rfl, hb⟩; obtain ⟨hc, hf⟩ := bcell hb; have hz := hb.size; (try simp at hz); have z0 : w.heap.size < w1.heap.size := (by omega); have z1 : w.heap.size + 1 < w1.heap.size := (by omega)))
  go_ret2
  exact ⟨rfl, (by repeat (first | exact Below.refl _ _ | refine Below.alloc ?_ (by first | omega | (simp; done) | (simp; omega)) _ | refine Below.setCell ?_ (by first | omega | (simp; done) | (simp; omega)) _ | refine Below.drew ?_ | refine Below.trans ?_ (Below.mono (by assumption) (by first | omega | (simp; done) | (simp; omega)))))⟩

set_option maxHeartbeats 2000000 in
theorem rrelate_12 (w : World) (a b c d : Int) (h1 : mayB a b = true) (h2 : mayB c d = true) (hx0 : c < b) (hx1 : a = d) : Calls Try.prog 11 #[sp a b, sp c d] w (PV (.tuple #[.int .i64 12, .int .i64 0]) w) := by

  obtain ⟨g0, g1, g2, g3, g4⟩ := may_iff.1 h1
  obtain ⟨k0, k1, k2, k3, k4⟩ := may_iff.1 h2
  have t1 : (b == c) = false := by simp; omega
  have t2 : (a == d) = true := by simp; omega
  have t3 : (a == c) = false := by simp; omega
  have t4 : (b == d) = false := by simp; omega
  have u1 : ¬ b < c := by have := hx0; omega
  have u2 : ¬ d < a := by omega
  have u3 : c < a := by omega
  have u4 : d < b := by omega
  clear hx0
  clear hx1
  go_enter Try.func11, Try.ntmps11
  go_wp2_with (first | (go_at_call 32; (with_reducible refine (rmay_of _ _ _ _ h1).mono ?_); rintro e w1 ⟨rfl, hb⟩; obtain ⟨hc, hf⟩ := bcell hb; have hz := hb.size; (try simp at hz); have z0 : w.heap.size < w1.heap.size := (by omega); have z1 : w.heap.size + 1 < w1.heap.size := (by omega)) | (go_at_call 32; (with_reducible refine (rmay_of _ _ _ _ h2).mono ?_); rintro e w1 ⟨rfl, hb⟩; obtain ⟨hc, hf⟩ := bcell hb; have hz := hb.size; (try simp at hz); have z0 : w.heap.size < w1.heap.size := (by omega); have z1 : w.heap.size + 1 < w1.heap.size := (by omega)))
  go_ret2
  exact ⟨rfl, (by repeat (first | exact Below.refl _ _ | refine Below.alloc ?_ (by first | omega | (simp; done) | (simp; omega)) _ | refine Below.setCell ?_ (by first | omega | (simp; done) | (simp; omega)) _ | refine Below.drew ?_ | refine Below.trans ?_ (Below.mono (by assumption) (by first | omega | (simp; done) | (simp; omega)))))⟩

set_option maxHeartbeats 2000000 in
theorem rrelate_13 (w : World) (a b c d : Int) (h1 : mayB a b = true) (h2 : mayB c d = true) (hx0 : c < b) (hx1 : d < a) : Calls Try.prog 11 #[sp a b, sp c d] w (PV (.tuple #[.int .i64 13, .int .i64 0]) w) := by

  obtain ⟨g0, g1, g2, g3, g4⟩ := may_iff.1 h1
  obtain ⟨k0, k1, k2, k3, k4⟩ := may_iff.1 h2
  have t1 : (b == c) = false := by simp; omega
  have t2 : (a == d) = false := by simp; omega
  have t3 : (a == c) = false := by simp; omega
  have t4 : (b == d) = false := by simp; omega
  have u1 : ¬ b < c := by have := hx0; omega
  have u2 : d < a := by omega
  have u3 : c < a := by omega
  have u4 : d < b := by omega
  clear hx0
  clear hx1
  go_enter Try.func11, Try.ntmps11
  go_wp2_with (first | (go_at_call 32; (with_reducible refine (rmay_of _ _ _ _ h1).mono ?_); rintro e w1 ⟨rfl, hb⟩; obtain ⟨hc, hf⟩ := bcell hb; have hz := hb.size; (try simp at hz); have z0 : w.heap.size < w1.heap.size := (by omega); have z1 : w.heap.size + 1 < w1.heap.size := (by omega)) | (go_at_call 32; (with_reducible refine (rmay_of _ _ _ _ h2).mono ?_); rintro e w1 ⟨rfl, hb⟩; obtain ⟨hc, hf⟩ := bcell hb; have hz := hb.size; (try simp at hz); have z0 : w.heap.size < w1.heap.size := (by omega); have z1 : w.heap.size + 1 < w1.heap.size := (by omega)))
  go_ret2
  exact ⟨rfl, (by repeat (first | exact Below.refl _ _ | refine Below.alloc ?_ (by first | omega | (simp; done) | (simp; omega)) _ | refine Below.setCell ?_ (by first | omega | (simp; done) | (simp; omega)) _ | refine Below.drew ?_ | refine Below.trans ?_ (Below.mono (by assumption) (by first | omega | (simp; done) | (simp; omega)))))⟩

set_option maxHeartbeats 2000000 in
theorem rrelate_3 (w : World) (a b c d : Int) (h1 : mayB a b = true) (h2 : mayB c d = true) (hx0 : c < b) (hx1 : a < d) (hx2 : a < c) (hx3 : b < d) : Calls Try.prog 11 #[sp a b, sp c d] w (PV (.tuple #[.int .i64 3, .int .i64 0]) w) := by

  obtain ⟨g0, g1, g2, g3, g4⟩ := may_iff.1 h1
  obtain ⟨k0, k1, k2, k3, k4⟩ := may_iff.1 h2
  have t1 : (b == c) = false := by simp; omega
  have t2 : (a == d) = false := by simp; omega
  have t3 : (a == c) = false := by simp; omega
  have t4 : (b == d) = false := by simp; omega
  have u1 : ¬ b < c := by have := hx0; omega
  have u2 : ¬ d < a := by omega
  have u3 : ¬ c < a := by omega
  have u4 : ¬ d < b := by omega
  clear hx0
  clear hx1
  clear hx2
  clear hx3
  go_enter Try.func11, Try.ntmps11
  go_wp2_with (first | (go_at_call 32; (with_reducible refine (rmay_of _ _ _ _ h1).mono ?_); rintro e w1 ⟨rfl, hb⟩; obtain ⟨hc, hf⟩ := bcell hb; have hz := hb.size; (try simp at hz); have z0 : w.heap.size < w1.heap.size := (by omega); have z1 : w.heap.size + 1 < w1.heap.size := (by omega)) | (go_at_call 32; (with_reducible refine (rmay_of _ _ _ _ h2).mono ?_); rintro e w1 ⟨rfl, hb⟩; obtain ⟨hc, hf⟩ := bcell hb; have hz := hb.size; (try simp at hz); have z0 : w.heap.size < w1.heap.size := (by omega); have z1 : w.heap.size + 1 < w1.heap.size := (by omega)))
  go_ret2
  exact ⟨rfl, (by repeat (first | exact Below.refl _ _ | refine Below.alloc ?_ (by first | omega | (simp; done) | (simp; omega)) _ | refine Below.setCell ?_ (by first | omega | (simp; done) | (simp; omega)) _ | refine Below.drew ?_ | refine Below.trans ?_ (Below.mono (by assumption) (by first | omega | (simp; done) | (simp; omega)))))⟩

set_option maxHeartbeats 2000000 in
theorem rrelate_4 (w : World) (a b c d : Int) (h1 : mayB a b = true) (h2 : mayB c d = true) (hx0 : c < b) (hx1 : a < d) (hx2 : a < c) (hx3 : b = d) : Calls Try.prog 11 #[sp a b, sp c d] w (PV (.tuple #[.int .i64 4, .int .i64 0]) w) := by

  obtain ⟨g0, g1, g2, g3, g4⟩ := may_iff.1 h1
  obtain ⟨k0, k1, k2, k3, k4⟩ := may_iff.1 h2
  have t1 : (b == c) = false := by simp; omega
  have t2 : (a == d) = false := by simp; omega
  have t3 : (a == c) = false := by simp; omega
  have t4 : (b == d) = true := by simp; omega
  have u1 : ¬ b < c := by have := hx0; omega
  have u2 : ¬ d < a := by omega
  have u3 : ¬ c < a := by omega
  have u4 : ¬ d < b := by omega
  clear hx0
  clear hx1
  clear hx2
  clear hx3
  go_enter Try.func11, Try.ntmps11
  go_wp2_with (first | (go_at_call 32; (with_reducible refine (rmay_of _ _ _ _ h1).mono ?_); rintro e w1 ⟨rfl, hb⟩; obtain ⟨hc, hf⟩ := bcell hb; have hz := hb.size; (try simp at hz); have z0 : w.heap.size < w1.heap.size := (by omega); have z1 : w.heap.size + 1 < w1.heap.size := (by omega)) | (go_at_call 32; (with_reducible refine (rmay_of _ _ _ _ h2).mono ?_); rintro e w1 ⟨rfl, hb⟩; obtain ⟨hc, hf⟩ := bcell hb; have hz := hb.size; (try simp at hz); have z0 : w.heap.size < w1.heap.size := (by omega); have z1 : w.heap.size + 1 < w1.heap.size := (by omega)))
  go_ret2
  exact ⟨rfl, (by repeat (first | exact Below.refl _ _ | refine Below.alloc ?_ (by first | omega | (simp; done) | (simp; omega)) _ | refine Below.setCell ?_ (by first | omega | (simp; done) | (simp; omega)) _ | refine Below.drew ?_ | refine Below.trans ?_ (Below.mono (by assumption) (by first | omega | (simp; done) | (simp; omega)))))⟩

set_option maxHeartbeats 2000000 in
theorem rrelate_5 (w : World) (a b c d : Int) (h1 : mayB a b = true) (h2 : mayB c d = true) (hx0 : c < b) (hx1 : a < d) (hx2 : a < c) (hx3 : d < b) : Calls Try.prog 11 #[sp a b, sp c d] w (PV (.tuple #[.int .i64 5, .int .i64 0]) w) := by

  obtain ⟨g0, g1, g2, g3, g4⟩ := may_iff.1 h1
  obtain ⟨k0, k1, k2, k3, k4⟩ := may_iff.1 h2
  have t1 : (b == c) = false := by simp; omega
  have t2 : (a == d) = false := by simp; omega
  have t3 : (a == c) = false := by simp; omega
  have t4 : (b == d) = false := by simp; omega
  have u1 : ¬ b < c := by have := hx0; omega
  have u2 : ¬ d < a := by omega
  have u3 : ¬ c < a := by omega
  have u4 : d < b := by omega
  clear hx0
  clear hx1
  clear hx2
  clear hx3
  go_enter Try.func11, Try.ntmps11
  go_wp2_with (first | (go_at_call 32; (with_reducible refine (rmay_of _ _ _ _ h1).mono ?_); rintro e w1 ⟨rfl, hb⟩; obtain ⟨hc, hf⟩ := bcell hb; have hz := hb.size; (try simp at hz); have z0 : w.heap.size < w1.heap.size := (by omega); have z1 : w.heap.size + 1 < w1.heap.size := (by omega)) | (go_at_call 32; (with_reducible refine (rmay_of _ _ _ _ h2).mono ?_); rintro e w1 ⟨rfl, hb⟩; obtain ⟨hc, hf⟩ := bcell hb; have hz := hb.size; (try simp at hz); have z0 : w.heap.size < w1.heap.size := (by omega); have z1 : w.heap.size + 1 < w1.heap.size := (by omega)))
  go_ret2
  exact ⟨rfl, (by repeat (first | exact Below.refl _ _ | refine Below.alloc ?_ (by first | omega | (simp; done) | (simp; omega)) _ | refine Below.setCell ?_ (by first | omega | (simp; done) | (simp; omega)) _ | refine Below.drew ?_ | refine Below.trans ?_ (Below.mono (by assumption) (by first | omega | (simp; done) | (simp; omega)))))⟩

set_option maxHeartbeats 2000000 in
theorem rrelate_6 (w : World) (a b c d : Int) (h1 : mayB a b = true) (h2 : mayB c d = true) (hx0 : c < b) (hx1 : a < d) (hx2 : a = c) (hx3 : b < d) : Calls Try.prog 11 #[sp a b, sp c d] w (PV (.tuple #[.int .i64 6, .int .i64 0]) w) := by

  obtain ⟨g0, g1, g2, g3, g4⟩ := may_iff.1 h1
  obtain ⟨k0, k1, k2, k3, k4⟩ := may_iff.1 h2
  have t1 : (b == c) = false := by simp; omega
  have t2 : (a == d) = false := by simp; omega
  have t3 : (a == c) = true := by simp; omega
  have t4 : (b == d) = false := by simp; omega
  have u1 : ¬ b < c := by have := hx0; omega
  have u2 : ¬ d < a := by omega
  have u3 : ¬ c < a := by omega
  have u4 : ¬ d < b := by omega
  clear hx0
  clear hx1
  clear hx2
  clear hx3
  go_enter Try.func11, Try.ntmps11
  go_wp2_with (first | (go_at_call 32; (with_reducible refine (rmay_of _ _ _ _ h1).mono ?_); rintro e w1 ⟨rfl, hb⟩; obtain ⟨hc, hf⟩ := bcell hb; have hz := hb.size; (try simp at hz); have z0 : w.heap.size < w1.heap.size := (by omega); have z1 : w.heap.size + 1 < w1.heap.size := (by omega)) | (go_at_call 32; (with_reducible refine (rmay_of _ _ _ _ h2).mono ?_); rintro e w1 ⟨rfl, hb⟩; obtain ⟨hc, hf⟩ := bcell hb; have hz := hb.size; (try simp at hz); have z0 : w.heap.size < w1.heap.size := (by omega); have z1 : w.heap.size + 1 < w1.heap.size := (by omega)))
  go_ret2
  exact ⟨rfl, (by repeat (first | exact Below.refl _ _ | refine Below.alloc ?_ (by first | omega | (simp; done) | (simp; omega)) _ | refine Below.setCell ?_ (by first | omega | (simp; done) | (simp; omega)) _ | refine Below.drew ?_ | refine Below.trans ?_ (Below.mono (by assumption) (by first | omega | (simp; done) | (simp; omega)))))⟩

set_option maxHeartbeats 2000000 in
theorem rrelate_7 (w : World) (a b c d : Int) (h1 : mayB a b = true) (h2 : mayB c d = true) (hx0 : c < b) (hx1 : a < d) (hx2 : a = c) (hx3 : b = d) : Calls Try.prog 11 #[sp a b, sp c d] w (PV (.tuple #[.int .i64 7, .int .i64 0]) w) := by

  obtain ⟨g0, g1, g2, g3, g4⟩ := may_iff.1 h1
  obtain ⟨k0, k1, k2, k3, k4⟩ := may_iff.1 h2
  have t1 : (b == c) = false := by simp; omega
  have t2 : (a == d) = false := by simp; omega
  have t3 : (a == c) = true := by simp; omega
  have t4 : (b == d) = true := by simp; omega
  have u1 : ¬ b < c := by have := hx0; omega
  have u2 : ¬ d < a := by omega
  have u3 : ¬ c < a := by omega
  have u4 : ¬ d < b := by omega
  clear hx0
  clear hx1
  clear hx2
  clear hx3
  go_enter Try.func11, Try.ntmps11
  go_wp2_with (first | (go_at_call 32; (with_reducible refine (rmay_of _ _ _ _ h1).mono ?_); rintro e w1 ⟨rfl, hb⟩; obtain ⟨hc, hf⟩ := bcell hb; have hz := hb.size; (try simp at hz); have z0 : w.heap.size < w1.heap.size := (by omega); have z1 : w.heap.size + 1 < w1.heap.size := (by omega)) | (go_at_call 32; (with_reducible refine (rmay_of _ _ _ _ h2).mono ?_); rintro e w1 ⟨rfl, hb⟩; obtain ⟨hc, hf⟩ := bcell hb; have hz := hb.size; (try simp at hz); have z0 : w.heap.size < w1.heap.size := (by omega); have z1 : w.heap.size + 1 < w1.heap.size := (by omega)))
  go_ret2
  exact ⟨rfl, (by repeat (first | exact Below.refl _ _ | refine Below.alloc ?_ (by first | omega | (simp; done) | (simp; omega)) _ | refine Below.setCell ?_ (by first | omega | (simp; done) | (simp; omega)) _ | refine Below.drew ?_ | refine Below.trans ?_ (Below.mono (by assumption) (by first | omega | (simp; done) | (simp; omega)))))⟩

set_option maxHeartbeats 2000000 in
theorem rrelate_8 (w : World) (a b c d : Int) (h1 : mayB a b = true) (h2 : mayB c d = true) (hx0 : c < b) (hx1 : a < d) (hx2 : a = c) (hx3 : d < b) : Calls Try.prog 11 #[sp a b, sp c d] w (PV (.tuple #[.int .i64 8, .int .i64 0]) w) := by

  obtain ⟨g0, g1, g2, g3, g4⟩ := may_iff.1 h1
  obtain ⟨k0, k1, k2, k3, k4⟩ := may_iff.1 h2
  have t1 : (b == c) = false := by simp; omega
  have t2 : (a == d) = false := by simp; omega
  have t3 : (a == c) = true := by simp; omega
  have t4 : (b == d) = false := by simp; omega
  have u1 : ¬ b < c := by have := hx0; omega
  have u2 : ¬ d < a := by omega
  have u3 : ¬ c < a := by omega
  have u4 : d < b := by omega
  clear hx0
  clear hx1
  clear hx2
  clear hx3
  go_enter Try.func11, Try.ntmps11
  go_wp2_with (first | (go_at_call 32; (with_reducible refine (rmay_of _ _ _ _ h1).mono ?_); rintro e w1 ⟨rfl, hb⟩; obtain ⟨hc, hf⟩ := bcell hb; have hz := hb.size; (try simp at hz); have z0 : w.heap.size < w1.heap.size := (by omega); have z1 : w.heap.size + 1 < w1.heap.size := (by omega)) | (go_at_call 32; (with_reducible refine (rmay_of _ _ _ _ h2).mono ?_); rintro e w1 ⟨rfl, hb⟩; obtain ⟨hc, hf⟩ := bcell hb; have hz := hb.size; (try simp at hz); have z0 : w.heap.size < w1.heap.size := (by omega); have z1 : w.heap.size + 1 < w1.heap.size := (by omega)))
  go_ret2
  exact ⟨rfl, (by repeat (first | exact Below.refl _ _ | refine Below.alloc ?_ (by first | omega | (simp; done) | (simp; omega)) _ | refine Below.setCell ?_ (by first | omega | (simp; done) | (simp; omega)) _ | refine Below.drew ?_ | refine Below.trans ?_ (Below.mono (by assumption) (by first | omega | (simp; done) | (simp; omega)))))⟩

set_option maxHeartbeats 2000000 in
theorem rrelate_9 (w : World) (a b c d : Int) (h1 : mayB a b = true) (h2 : mayB c d = true) (hx0 : c < b) (hx1 : a < d) (hx2 : c < a) (hx3 : b < d) : Calls Try.prog 11 #[sp a b, sp c d] w (PV (.tuple #[.int .i64 9, .int .i64 0]) w) := by

  obtain ⟨g0, g1, g2, g3, g4⟩ := may_iff.1 h1
  obtain ⟨k0, k1, k2, k3, k4⟩ := may_iff.1 h2
  have t1 : (b == c) = false := by simp; omega
  have t2 : (a == d) = false := by simp; omega
  have t3 : (a == c) = false := by simp; omega
  have t4 : (b == d) = false := by simp; omega
  have u1 : ¬ b < c := by have := hx0; omega
  have u2 : ¬ d < a := by omega
  have u3 : c < a := by omega
  have u4 : ¬ d < b := by omega
  clear hx0
  clear hx1
  clear hx2
  clear hx3
  go_enter Try.func11, Try.ntmps11
  go_wp2_with (first | (go_at_call 32; (with_reducible refine (rmay_of _ _ _ _ h1).mono ?_); rintro e w1 ⟨rfl, hb⟩; obtain ⟨hc, hf⟩ := bcell hb; have hz := hb.size; (try simp at hz); have z0 : w.heap.size < w1.heap.size := (by omega); have z1 : w.heap.size + 1 < w1.heap.size := (by omega)) | (go_at_call 32; (with_reducible refine (rmay_of _ _ _ _ h2).mono ?_); rintro e w1 ⟨rfl, hb⟩; obtain ⟨hc, hf⟩ := bcell hb; have hz := hb.size; (try simp at hz); have z0 : w.heap.size < w1.heap.size := (by omega); have z1 : w.heap.size + 1 < w1.heap.size := (by omega)))
  go_ret2
  exact ⟨rfl, (by repeat (first | exact Below.refl _ _ | refine Below.alloc ?_ (by first | omega | (simp; done) | (simp; omega)) _ | refine Below.setCell ?_ (by first | omega | (simp; done) | (simp; omega)) _ | refine Below.drew ?_ | refine Below.trans ?_ (Below.mono (by assumption) (by first | omega | (simp; done) | (simp; omega)))))⟩

set_option maxHeartbeats 2000000 in
theorem rrelate_10 (w : World) (a b c d : Int) (h1 : mayB a b = true) (h2 : mayB c d = true) (hx0 : c < b) (hx1 : a < d) (hx2 : c < a) (hx3 : b = d) : Calls Try.prog 11 #[sp a b, sp c d] w (PV (.tuple #[.int .i64 10, .int .i64 0]) w) := by

  obtain ⟨g0, g1, g2, g3, g4⟩ := may_iff.1 h1
  obtain ⟨k0, k1, k2, k3, k4⟩ := may_iff.1 h2
  have t1 : (b == c) = false := by simp; omega
  have t2 : (a == d) = false := by simp; omega
  have t3 : (a == c) = false := by simp; omega
  have t4 : (b == d) = true := by simp; omega
  have u1 : ¬ b < c := by have := hx0; omega
  have u2 : ¬ d < a := by omega
  have u3 : c < a := by omega
  have u4 : ¬ d < b := by omega
  clear hx0
  clear hx1
  clear hx2
  clear hx3
  go_enter Try.func11, Try.ntmps11
  go_wp2_with (first | (go_at_call 32; (with_reducible refine (rmay_of _ _ _ _ h1).mono ?_); rintro e w1 ⟨rfl, hb⟩; obtain ⟨hc, hf⟩ := bcell hb; have hz := hb.size; (try simp at hz); have z0 : w.heap.size < w1.heap.size := (by omega); have z1 : w.heap.size + 1 < w1.heap.size := (by omega)) | (go_at_call 32; (with_reducible refine (rmay_of _ _ _ _ h2).mono ?_); rintro e w1 ⟨rfl, hb⟩; obtain ⟨hc, hf⟩ := bcell hb; have hz := hb.size; (try simp at hz); have z0 : w.heap.size < w1.heap.size := (by omega); have z1 : w.heap.size + 1 < w1.heap.size := (by omega)))
  go_ret2
  exact ⟨rfl, (by repeat (first | exact Below.refl _ _ | refine Below.alloc ?_ (by first | omega | (simp; done) | (simp; omega)) _ | refine Below.setCell ?_ (by first | omega | (simp; done) | (simp; omega)) _ | refine Below.drew ?_ | refine Below.trans ?_ (Below.mono (by assumption) (by first | omega | (simp; done) | (simp; omega)))))⟩

set_option maxHeartbeats 2000000 in
theorem rrelate_11 (w : World) (a b c d : Int) (h1 : mayB a b = true) (h2 : mayB c d = true) (hx0 : c < b) (hx1 : a < d) (hx2 : c < a) (hx3 : d < b) : Calls Try.prog 11 #[sp a b, sp c d] w (PV (.tuple #[.int .i64 11, .int .i64 0]) w) := by

  obtain ⟨g0, g1, g2, g3, g4⟩ := may_iff.1 h1
  obtain ⟨k0, k1, k2, k3, k4⟩ := may_iff.1 h2
  have t1 : (b == c) = false := by simp; omega
  have t2 : (a == d) = false := by simp; omega
  have t3 : (a == c) = false := by simp; omega
  have t4 : (b == d) = false := by simp; omega
  have u1 : ¬ b < c := by have := hx0; omega
  have u2 : ¬ d < a := by omega
  have u3 : c < a := by omega
  have u4 : d < b := by omega
  clear hx0
  clear hx1
  clear hx2
  clear hx3
  go_enter Try.func11, Try.ntmps11
  go_wp2_with (first | (go_at_call 32; (with_reducible refine (rmay_of _ _ _ _ h1).mono ?_); rintro e w1 ⟨rfl, hb⟩; obtain ⟨hc, hf⟩ := bcell hb; have hz := hb.size; (try simp at hz); have z0 : w.heap.size < w1.heap.size := (by omega); have z1 : w.heap.size + 1 < w1.heap.size := (by omega)) | (go_at_call 32; (with_reducible refine (rmay_of _ _ _ _ h2).mono ?_); rintro e w1 ⟨rfl, hb⟩; obtain ⟨hc, hf⟩ := bcell hb; have hz := hb.size; (try simp at hz); have z0 : w.heap.size < w1.heap.size := (by omega); have z1 : w.heap.size + 1 < w1.heap.size := (by omega)))
  go_ret2
  exact ⟨rfl, (by repeat (first | exact Below.refl _ _ | refine Below.alloc ?_ (by first | omega | (simp; done) | (simp; omega)) _ | refine Below.setCell ?_ (by first | omega | (simp; done) | (simp; omega)) _ | refine Below.drew ?_ | refine Below.trans ?_ (Below.mono (by assumption) (by first | omega | (simp; done) | (simp; omega)))))⟩

theorem rrelate_any (w : World) (a b c d : Int) : Calls Try.prog 11 #[sp a b, sp c d] w (PV (.tuple #[.int .i64 (rlN a b c d), .int .i64 (rlE a b c d)]) w) := by

  cases h1 : mayB a b with
  | false =>
    obtain ⟨r1, r2⟩ := rl_no1 (c := c) (d := d) h1
    rw [r1, r2]; clear r1 r2
    go_enter Try.func11, Try.ntmps11
    go_wp2_with (go_at_call 32; (with_reducible refine (rmay_of _ _ _ _ h1).mono ?_); rintro e w1 ⟨rfl, hb⟩; obtain ⟨hc, hf⟩ := bcell hb; have hz := hb.size; (try simp at hz); have z0 : w.heap.size < w1.heap.size := (by omega); have z1 : w.heap.size + 1 < w1.heap.size := (by omega))
    go_ret2
    exact ⟨rfl, (by repeat (first | exact Below.refl _ _ | refine Below.alloc ?_ (by first | omega | (simp; done) | (simp; omega)) _ | refine Below.setCell ?_ (by first | omega | (simp; done) | (simp; omega)) _ | refine Below.drew ?_ | refine Below.trans ?_ (Below.mono (by assumption) (by first | omega | (simp; done) | (simp; omega)))))⟩
  | true =>
    cases h2 : mayB c d with
    | false =>
      obtain ⟨r1, r2⟩ := rl_no2 (a := a) (b := b) h2
      rw [r1, r2]; clear r1 r2
      go_enter Try.func11, Try.ntmps11
      go_wp2_with (first | (go_at_call 32; (with_reducible refine (rmay_of _ _ _ _ h1).mono ?_); rintro e w1 ⟨rfl, hb⟩; obtain ⟨hc, hf⟩ := bcell hb; have hz := hb.size; (try simp at hz); have z0 : w.heap.size < w1.heap.size := (by omega); have z1 : w.heap.size + 1 < w1.heap.size := (by omega)) | (go_at_call 32; (with_reducible refine (rmay_of _ _ _ _ h2).mono ?_); rintro e w1 ⟨rfl, hb⟩; obtain ⟨hc, hf⟩ := bcell hb; have hz := hb.size; (try simp at hz); have z0 : w.heap.size < w1.heap.size := (by omega); have z1 : w.heap.size + 1 < w1.heap.size := (by omega)))
      go_ret2
      exact ⟨rfl, (by repeat (first | exact Below.refl _ _ | refine Below.alloc ?_ (by first | omega | (simp; done) | (simp; omega)) _ | refine Below.setCell ?_ (by first | omega | (simp; done) | (simp; omega)) _ | refine Below.drew ?_ | refine Below.trans ?_ (Below.mono (by assumption) (by first | omega | (simp; done) | (simp; omega)))))⟩
    | true =>
      obtain ⟨r1, r2⟩ := rl_yes h1 h2
      rw [r1, r2]; clear r1 r2
      obtain ⟨g0, g1, g2, g3, g4⟩ := may_iff.1 h1
      obtain ⟨k0, k1, k2, k3, k4⟩ := may_iff.1 h2
      by_cases q1 : b < c
      · skip
        have hr : relI a b c d = 1 := by
          unfold relI
          rw [if_pos (by omega)]
        rw [hr]
        exact rrelate_1 w a b c d h1 h2 (by omega)
      by_cases q2 : b = c
      · skip
        have hr : relI a b c d = 2 := by
          unfold relI
          rw [if_neg (by omega), if_pos (by omega)]
        rw [hr]
        exact rrelate_2 w a b c d h1 h2 (by omega)
      by_cases q12 : a = d
      · skip
        have hr : relI a b c d = 12 := by
          unfold relI
          rw [if_neg (by omega), if_neg (by omega), if_pos (by omega)]
        rw [hr]
        exact rrelate_12 w a b c d h1 h2 (by omega) (by omega)
      by_cases q13 : d < a
      · skip
        have hr : relI a b c d = 13 := by
          unfold relI
          rw [if_neg (by omega), if_neg (by omega), if_neg (by omega), if_pos (by omega)]
        rw [hr]
        exact rrelate_13 w a b c d h1 h2 (by omega) (by omega)
      have hab : a < c ∨ a = c ∨ c < a := by omega
      have hbd : b < d ∨ b = d ∨ d < b := by omega
      rcases hab with h5 | h5 | h5 <;> rcases hbd with h6 | h6 | h6
      · skip
        have hr : relI a b c d = 3 := by
          unfold relI
          rw [if_neg (by omega), if_neg (by omega), if_neg (by omega), if_neg (by omega), sgn_pos (x := c - a) (by omega), sgn_pos (x := d - b) (by omega)]
          rfl
        rw [hr]
        exact rrelate_3 w a b c d h1 h2 (by omega) (by omega) (by omega) (by omega)
      · skip
        have hr : relI a b c d = 4 := by
          unfold relI
          rw [if_neg (by omega), if_neg (by omega), if_neg (by omega), if_neg (by omega), sgn_pos (x := c - a) (by omega), sgn_zero (x := d - b) (by omega)]
          rfl
        rw [hr]
        exact rrelate_4 w a b c d h1 h2 (by omega) (by omega) (by omega) (by omega)
      · skip
        have hr : relI a b c d = 5 := by
          unfold relI
          rw [if_neg (by omega), if_neg (by omega), if_neg (by omega), if_neg (by omega), sgn_pos (x := c - a) (by omega), sgn_neg (x := d - b) (by omega)]
          rfl
        rw [hr]
        exact rrelate_5 w a b c d h1 h2 (by omega) (by omega) (by omega) (by omega)
      · skip
        have hr : relI a b c d = 6 := by
          unfold relI
          rw [if_neg (by omega), if_neg (by omega), if_neg (by omega), if_neg (by omega), sgn_zero (x := c - a) (by omega), sgn_pos (x := d - b) (by omega)]
          rfl
        rw [hr]
        exact rrelate_6 w a b c d h1 h2 (by omega) (by omega) (by omega) (by omega)
      · skip
        have hr : relI a b c d = 7 := by
          unfold relI
          rw [if_neg (by omega), if_neg (by omega), if_neg (by omega), if_neg (by omega), sgn_zero (x := c - a) (by omega), sgn_zero (x := d - b) (by omega)]
          rfl
        rw [hr]
        exact rrelate_7 w a b c d h1 h2 (by omega) (by omega) (by omega) (by omega)
      · skip
        have hr : relI a b c d = 8 := by
          unfold relI
          rw [if_neg (by omega), if_neg (by omega), if_neg (by omega), if_neg (by omega), sgn_zero (x := c - a) (by omega), sgn_neg (x := d - b) (by omega)]
          rfl
        rw [hr]
        exact rrelate_8 w a b c d h1 h2 (by omega) (by omega) (by omega) (by omega)
      · skip
        have hr : relI a b c d = 9 := by
          unfold relI
          rw [if_neg (by omega), if_neg (by omega), if_neg (by omega), if_neg (by omega), sgn_neg (x := c - a) (by omega), sgn_pos (x := d - b) (by omega)]
          rfl
        rw [hr]
        exact rrelate_9 w a b c d h1 h2 (by omega) (by omega) (by omega) (by omega)
      · skip
        have hr : relI a b c d = 10 := by
          unfold relI
          rw [if_neg (by omega), if_neg (by omega), if_neg (by omega), if_neg (by omega), sgn_neg (x := c - a) (by omega), sgn_zero (x := d - b) (by omega)]
          rfl
        rw [hr]
        exact rrelate_10 w a b c d h1 h2 (by omega) (by omega) (by omega) (by omega)
      · skip
        have hr : relI a b c d = 11 := by
          unfold relI
          rw [if_neg (by omega), if_neg (by omega), if_neg (by omega), if_neg (by omega), sgn_neg (x := c - a) (by omega), sgn_neg (x := d - b) (by omega)]
          rfl
        rw [hr]
        exact rrelate_11 w a b c d h1 h2 (by omega) (by omega) (by omega) (by omega)


theorem live_any (w : World) : Calls Try.prog 12 #[] w (PV (.bool true) w) := by
  have m1 : mkF 2 5 = 2 := by decide
  have m2 : mkT 2 5 = 5 := by decide
  have m3 : mkE 2 5 = 0 := by decide
  have m4 : mkF 5 5 = 0 := by decide
  have m5 : mkT 5 5 = 0 := by decide
  have m6 : mkE 5 5 = 14 := by decide
  have m7 : rlN 2 5 5 6 = 2 := by decide
  have m8 : rlE 2 5 5 6 = 0 := by decide
  have m9 : lenI 2 5 = 3 := by decide
  go_enter Try.func12, Try.ntmps12
  go_wp2_with fail
  refine (make_any _ _ _).mono ?_
  rintro e w1 ⟨rfl, hb1⟩
  rw [m1, m2, m3]
  have K1 := hb1
  clear hb1
  go_wp2_with fail
  refine (make_any _ _ _).mono ?_
  rintro e w2 ⟨rfl, hb2⟩
  rw [m4, m5, m6]
  have c0 : w2.cell? ⟨w1.heap.size, 0, none⟩ = some (.int .i64 2) := by rw [hb2.cell (p := ⟨w1.heap.size, 0, none⟩) (by simp)]; simp
  have c1 : w2.cell? ⟨w1.heap.size, 1, none⟩ = some (.int .i64 5) := by rw [hb2.cell (p := ⟨w1.heap.size, 1, none⟩) (by simp)]; simp
  have K2 := (K1.alloc (K1.size) (.cells #[.int .i64 2, .int .i64 5] 23)).trans (hb2.mono (by have := K1.size; simp; omega))
  have z2 : w1.heap.size < w2.heap.size := by have := hb2.size; simp at this; omega
  have z1 : w.heap.size ≤ w1.heap.size := K1.size
  clear hb2 K1
  have d0 : (w2.alloc (.cells #[.int .i64 0, .int .i64 0] 23)).cell? ⟨w1.heap.size, 0, none⟩ = some (.int .i64 2) := by rw [World.cell?_alloc_lt _ _ _ z2]; exact c0
  have d1 : (w2.alloc (.cells #[.int .i64 0, .int .i64 0] 23)).cell? ⟨w1.heap.size, 1, none⟩ = some (.int .i64 5) := by rw [World.cell?_alloc_lt _ _ _ z2]; exact c1
  go_wp2_with fail
  refine (relate_any _ _ _ _ _).mono ?_
  rintro e w3 ⟨rfl, hb3⟩
  rw [m7, m8]
  have e0 : w3.cell? ⟨w1.heap.size, 0, none⟩ = some (.int .i64 2) := by rw [hb3.cell (p := ⟨w1.heap.size, 0, none⟩) (by simp; omega)]; exact d0
  have e1 : w3.cell? ⟨w1.heap.size, 1, none⟩ = some (.int .i64 5) := by rw [hb3.cell (p := ⟨w1.heap.size, 1, none⟩) (by simp; omega)]; exact d1
  have K3 := (K2.alloc (K2.size) (.cells #[.int .i64 0, .int .i64 0] 23)).trans (hb3.mono (by have := K2.size; simp; omega))
  clear hb3 K2 d0 d1 c0 c1
  go_wp2_with fail
  refine (length_any _ _ _).mono ?_
  rintro e w4 ⟨rfl, hb4⟩
  rw [m9]
  have K4 := K3.trans (hb4.mono (K3.size))
  go_wp2_with fail
  go_ret
  exact ⟨rfl, K4⟩

end Go.Proofs.Ytghlkpaadahpaaa
