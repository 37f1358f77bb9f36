/- Contracts of Ahead, Rest, the program's and the reference's. -/
import Derived.Test.YtghlkpaadahpaaaA
namespace Go.Proofs.Ytghlkpaadahpaaa
open Go.RowKit Fl

def ahB (f t u : Int) : Bool := decide (mayB f t = true ∧ f < u)
def ahF (f t u : Int) : Int := if ahB f t u then f else 0
def ahT (f t u : Int) : Int := if ahB f t u then min t u else 0
def reB (f t u : Int) : Bool := decide (mayB f t = true ∧ u < t)
def reF (f t u : Int) : Int := if reB f t u then max f u else 0
def reT (f t u : Int) : Int := if reB f t u then t else 0
theorem ah_no {f t u : Int} (h : ¬ (mayB f t = true ∧ f < u)) : ahB f t u = false ∧ ahF f t u = 0 ∧ ahT f t u = 0 := by
  have : ahB f t u = false := by simp only [ahB, decide_eq_false_iff_not]; exact h
  simp [ahF, ahT, this]
theorem ah_yes {f t u : Int} (h : mayB f t = true ∧ f < u) : ahB f t u = true ∧ ahF f t u = f ∧ ahT f t u = min t u := by
  have : ahB f t u = true := by simp only [ahB, decide_eq_true_eq]; exact h
  simp [ahF, ahT, this]
theorem re_no {f t u : Int} (h : ¬ (mayB f t = true ∧ u < t)) : reB f t u = false ∧ reF f t u = 0 ∧ reT f t u = 0 := by
  have : reB f t u = false := by simp only [reB, decide_eq_false_iff_not]; exact h
  simp [reF, reT, this]
theorem re_yes {f t u : Int} (h : mayB f t = true ∧ u < t) : reB f t u = true ∧ reF f t u = max f u ∧ reT f t u = t := by
  have : reB f t u = true := by simp only [reB, decide_eq_true_eq]; exact h
  simp [reF, reT, this]

set_option maxHeartbeats 1000000 in
theorem ahead_any (w : World) (f t u : Int) : Calls Try.prog 22 #[sp f t, .int .i64 u] w (PV (.tuple #[sp (ahF f t u) (ahT f t u), .bool (ahB f t u)]) w) := by
  cases h1 : mayB f t with
  | false =>
    obtain ⟨r1, r2, r3⟩ := ah_no (f := f) (t := t) (u := u) (by simp [h1])
    rw [r1, r2, r3]; clear r1 r2 r3
    go_enter Try.func22, Try.ntmps22
    go_wp2_with (go_at_call 15; (with_reducible refine (may_of _ _ _ _ h1).mono ?_); rintro e w1 ⟨rfl, hb⟩; obtain ⟨hc, hf⟩ := bcell hb; have hz := hb.size; (try simp at hz); have z0 : w.heap.size < w1.heap.size := (by omega); have z1 : w.heap.size + 1 < w1.heap.size := (by omega))
    obtain ⟨e0, e1⟩ := ret_slot (W := w.alloc (.cells #[.int .i64 f, .int .i64 t] 23)) (w1 := _) (b := w.heap.size + 1) (T := 23) (a0 := .int .i64 0) (a1 := .int .i64 0) (by simp) (hB := (by show Below _ _ w1; repeat (first | exact Below.refl _ _ | refine Below.alloc ?_ (by first | omega | (simp; done) | (simp; omega)) _ | refine Below.setCell ?_ (by first | omega | (simp; done) | (simp; omega)) _ | refine Below.drew ?_ | refine Below.trans ?_ (Below.mono (by assumption) (by first | omega | (simp; done) | (simp; omega))))))
    exact bodyPost_ret (v := .tuple #[sp 0 0, .bool false]) (by simp [results, Try.results22, go_sem, e0, e1]) rfl ⟨rfl, (by repeat (first | exact Below.refl _ _ | refine Below.alloc ?_ (by first | omega | (simp; done) | (simp; omega)) _ | refine Below.setCell ?_ (by first | omega | (simp; done) | (simp; omega)) _ | refine Below.drew ?_ | refine Below.trans ?_ (Below.mono (by assumption) (by first | omega | (simp; done) | (simp; omega)))))⟩
  | true =>
    have k1 := may_iff.1 h1
    by_cases h2 : f < u
    · skip
      by_cases q1 : u < t
      · skip
        have hm : min t u = u := by omega
        obtain ⟨r1, r2, r3⟩ := ah_yes (u := u) ⟨h1, h2⟩
        rw [hm] at r3
        rw [r1, r2, r3]; clear r1 r2 r3
        have h3 : mayB f u = true := by rw [may_iff]; omega
        clear hm k1
        go_enter Try.func22, Try.ntmps22
        go_wp2_with (first | (go_at_call 15; (with_reducible refine (may_of _ _ _ _ h1).mono ?_); rintro e w1 ⟨rfl, hb⟩; obtain ⟨hc, hf⟩ := bcell hb; have hz := hb.size; (try simp at hz); have z0 : w.heap.size < w1.heap.size := (by omega); have z1 : w.heap.size + 1 < w1.heap.size := (by omega)) | (go_at_call 36; (with_reducible refine (told_yes _ _ _ h3).mono ?_); rintro e w1 ⟨rfl, hb⟩; obtain ⟨hc, hf⟩ := bcell hb; have hz := hb.size; (try simp at hz); have z0 : w.heap.size < w1.heap.size := (by omega); have z1 : w.heap.size + 1 < w1.heap.size := (by omega)))
        obtain ⟨e0, e1⟩ := ret_slot (W := w.alloc (.cells #[.int .i64 f, .int .i64 t] 23)) (w1 := _) (b := w.heap.size + 1) (T := 23) (a0 := .int .i64 0) (a1 := .int .i64 0) (by simp) (hB := (by show Below _ _ w1; repeat (first | exact Below.refl _ _ | refine Below.alloc ?_ (by first | omega | (simp; done) | (simp; omega)) _ | refine Below.setCell ?_ (by first | omega | (simp; done) | (simp; omega)) _ | refine Below.drew ?_ | refine Below.trans ?_ (Below.mono (by assumption) (by first | omega | (simp; done) | (simp; omega))))))
        exact bodyPost_ret (v := .tuple #[sp f u, .bool true]) (by simp [results, Try.results22, go_sem, e0, e1]) rfl ⟨rfl, (by repeat (first | exact Below.refl _ _ | refine Below.alloc ?_ (by first | omega | (simp; done) | (simp; omega)) _ | refine Below.setCell ?_ (by first | omega | (simp; done) | (simp; omega)) _ | refine Below.drew ?_ | refine Below.trans ?_ (Below.mono (by assumption) (by first | omega | (simp; done) | (simp; omega)))))⟩
      · skip
        have hm : min t u = t := by omega
        obtain ⟨r1, r2, r3⟩ := ah_yes (u := u) ⟨h1, h2⟩
        rw [hm] at r3
        rw [r1, r2, r3]; clear r1 r2 r3
        have h3 : mayB f t = true := by rw [may_iff]; omega
        clear hm k1
        go_enter Try.func22, Try.ntmps22
        go_wp2_with (first | (go_at_call 15; (with_reducible refine (may_of _ _ _ _ h1).mono ?_); rintro e w1 ⟨rfl, hb⟩; obtain ⟨hc, hf⟩ := bcell hb; have hz := hb.size; (try simp at hz); have z0 : w.heap.size < w1.heap.size := (by omega); have z1 : w.heap.size + 1 < w1.heap.size := (by omega)) | (go_at_call 36; (with_reducible refine (told_yes _ _ _ h3).mono ?_); rintro e w1 ⟨rfl, hb⟩; obtain ⟨hc, hf⟩ := bcell hb; have hz := hb.size; (try simp at hz); have z0 : w.heap.size < w1.heap.size := (by omega); have z1 : w.heap.size + 1 < w1.heap.size := (by omega)))
        obtain ⟨e0, e1⟩ := ret_slot (W := w.alloc (.cells #[.int .i64 f, .int .i64 t] 23)) (w1 := _) (b := w.heap.size + 1) (T := 23) (a0 := .int .i64 0) (a1 := .int .i64 0) (by simp) (hB := (by show Below _ _ w1; repeat (first | exact Below.refl _ _ | refine Below.alloc ?_ (by first | omega | (simp; done) | (simp; omega)) _ | refine Below.setCell ?_ (by first | omega | (simp; done) | (simp; omega)) _ | refine Below.drew ?_ | refine Below.trans ?_ (Below.mono (by assumption) (by first | omega | (simp; done) | (simp; omega))))))
        exact bodyPost_ret (v := .tuple #[sp f t, .bool true]) (by simp [results, Try.results22, go_sem, e0, e1]) rfl ⟨rfl, (by repeat (first | exact Below.refl _ _ | refine Below.alloc ?_ (by first | omega | (simp; done) | (simp; omega)) _ | refine Below.setCell ?_ (by first | omega | (simp; done) | (simp; omega)) _ | refine Below.drew ?_ | refine Below.trans ?_ (Below.mono (by assumption) (by first | omega | (simp; done) | (simp; omega)))))⟩
    · skip
      by_cases q1 : u < t
      · skip
        have hm : min t u = u := by omega
        obtain ⟨r1, r2, r3⟩ := ah_no (f := f) (t := t) (u := u) (by simp [h1]; omega)
        rw [r1, r2, r3]; clear r1 r2 r3
        have h3 : mayB f u = false := by rw [may_no]; omega
        clear hm k1
        go_enter Try.func22, Try.ntmps22
        go_wp2_with (first | (go_at_call 15; (with_reducible refine (may_of _ _ _ _ h1).mono ?_); rintro e w1 ⟨rfl, hb⟩; obtain ⟨hc, hf⟩ := bcell hb; have hz := hb.size; (try simp at hz); have z0 : w.heap.size < w1.heap.size := (by omega); have z1 : w.heap.size + 1 < w1.heap.size := (by omega)) | (go_at_call 36; (with_reducible refine (told_no _ _ _ h3).mono ?_); rintro e w1 ⟨rfl, hb⟩; obtain ⟨hc, hf⟩ := bcell hb; have hz := hb.size; (try simp at hz); have z0 : w.heap.size < w1.heap.size := (by omega); have z1 : w.heap.size + 1 < w1.heap.size := (by omega)))
        obtain ⟨e0, e1⟩ := ret_slot (W := w.alloc (.cells #[.int .i64 f, .int .i64 t] 23)) (w1 := _) (b := w.heap.size + 1) (T := 23) (a0 := .int .i64 0) (a1 := .int .i64 0) (by simp) (hB := (by show Below _ _ w1; repeat (first | exact Below.refl _ _ | refine Below.alloc ?_ (by first | omega | (simp; done) | (simp; omega)) _ | refine Below.setCell ?_ (by first | omega | (simp; done) | (simp; omega)) _ | refine Below.drew ?_ | refine Below.trans ?_ (Below.mono (by assumption) (by first | omega | (simp; done) | (simp; omega))))))
        exact bodyPost_ret (v := .tuple #[sp 0 0, .bool false]) (by simp [results, Try.results22, go_sem, e0, e1]) rfl ⟨rfl, (by repeat (first | exact Below.refl _ _ | refine Below.alloc ?_ (by first | omega | (simp; done) | (simp; omega)) _ | refine Below.setCell ?_ (by first | omega | (simp; done) | (simp; omega)) _ | refine Below.drew ?_ | refine Below.trans ?_ (Below.mono (by assumption) (by first | omega | (simp; done) | (simp; omega)))))⟩
      · skip
        have hm : min t u = t := by omega
        obtain ⟨r1, r2, r3⟩ := ah_no (f := f) (t := t) (u := u) (by simp [h1]; omega)
        rw [r1, r2, r3]; clear r1 r2 r3
        have h3 : mayB f t = false := by rw [may_no]; omega
        clear hm k1
        go_enter Try.func22, Try.ntmps22
        go_wp2_with (first | (go_at_call 15; (with_reducible refine (may_of _ _ _ _ h1).mono ?_); rintro e w1 ⟨rfl, hb⟩; obtain ⟨hc, hf⟩ := bcell hb; have hz := hb.size; (try simp at hz); have z0 : w.heap.size < w1.heap.size := (by omega); have z1 : w.heap.size + 1 < w1.heap.size := (by omega)) | (go_at_call 36; (with_reducible refine (told_no _ _ _ h3).mono ?_); rintro e w1 ⟨rfl, hb⟩; obtain ⟨hc, hf⟩ := bcell hb; have hz := hb.size; (try simp at hz); have z0 : w.heap.size < w1.heap.size := (by omega); have z1 : w.heap.size + 1 < w1.heap.size := (by omega)))
        obtain ⟨e0, e1⟩ := ret_slot (W := w.alloc (.cells #[.int .i64 f, .int .i64 t] 23)) (w1 := _) (b := w.heap.size + 1) (T := 23) (a0 := .int .i64 0) (a1 := .int .i64 0) (by simp) (hB := (by show Below _ _ w1; repeat (first | exact Below.refl _ _ | refine Below.alloc ?_ (by first | omega | (simp; done) | (simp; omega)) _ | refine Below.setCell ?_ (by first | omega | (simp; done) | (simp; omega)) _ | refine Below.drew ?_ | refine Below.trans ?_ (Below.mono (by assumption) (by first | omega | (simp; done) | (simp; omega))))))
        exact bodyPost_ret (v := .tuple #[sp 0 0, .bool false]) (by simp [results, Try.results22, go_sem, e0, e1]) rfl ⟨rfl, (by repeat (first | exact Below.refl _ _ | refine Below.alloc ?_ (by first | omega | (simp; done) | (simp; omega)) _ | refine Below.setCell ?_ (by first | omega | (simp; done) | (simp; omega)) _ | refine Below.drew ?_ | refine Below.trans ?_ (Below.mono (by assumption) (by first | omega | (simp; done) | (simp; omega)))))⟩

set_option maxHeartbeats 1000000 in
theorem rahead_any (w : World) (f t u : Int) : Calls Try.prog 23 #[sp f t, .int .i64 u] w (PV (.tuple #[sp (ahF f t u) (ahT f t u), .bool (ahB f t u)]) w) := by
  cases h1 : mayB f t with
  | false =>
    obtain ⟨r1, r2, r3⟩ := ah_no (f := f) (t := t) (u := u) (by simp [h1])
    rw [r1, r2, r3]; clear r1 r2 r3
    go_enter Try.func23, Try.ntmps23
    go_wp2_with (go_at_call 32; (with_reducible refine (rmay_of _ _ _ _ h1).mono ?_); rintro e w1 ⟨rfl, hb⟩; obtain ⟨hc, hf⟩ := bcell hb; have hz := hb.size; (try simp at hz); have z0 : w.heap.size < w1.heap.size := (by omega); have z1 : w.heap.size + 1 < w1.heap.size := (by omega))
    obtain ⟨e0, e1⟩ := ret_slot (W := w.alloc (.cells #[.int .i64 f, .int .i64 t] 23)) (w1 := _) (b := w.heap.size + 1) (T := 23) (a0 := .int .i64 0) (a1 := .int .i64 0) (by simp) (hB := (by show Below _ _ w1; repeat (first | exact Below.refl _ _ | refine Below.alloc ?_ (by first | omega | (simp; done) | (simp; omega)) _ | refine Below.setCell ?_ (by first | omega | (simp; done) | (simp; omega)) _ | refine Below.drew ?_ | refine Below.trans ?_ (Below.mono (by assumption) (by first | omega | (simp; done) | (simp; omega))))))
    exact bodyPost_ret (v := .tuple #[sp 0 0, .bool false]) (by simp [results, Try.results23, go_sem, e0, e1]) rfl ⟨rfl, (by repeat (first | exact Below.refl _ _ | refine Below.alloc ?_ (by first | omega | (simp; done) | (simp; omega)) _ | refine Below.setCell ?_ (by first | omega | (simp; done) | (simp; omega)) _ | refine Below.drew ?_ | refine Below.trans ?_ (Below.mono (by assumption) (by first | omega | (simp; done) | (simp; omega)))))⟩
  | true =>
    have k1 := may_iff.1 h1
    by_cases h2 : f < u
    · skip
      by_cases q1 : u < t
      · skip
        have hm : min t u = u := by omega
        obtain ⟨r1, r2, r3⟩ := ah_yes (u := u) ⟨h1, h2⟩
        rw [hm] at r3
        rw [r1, r2, r3]; clear r1 r2 r3
        have h3 : mayB f u = true := by rw [may_iff]; omega
        have h4 : decide (u ≤ f) = false := by simp; omega
        clear hm k1 h3
        go_enter Try.func23, Try.ntmps23
        go_wp2_with (go_at_call 32; (with_reducible refine (rmay_of _ _ _ _ h1).mono ?_); rintro e w1 ⟨rfl, hb⟩; obtain ⟨hc, hf⟩ := bcell hb; have hz := hb.size; (try simp at hz); have z0 : w.heap.size < w1.heap.size := (by omega); have z1 : w.heap.size + 1 < w1.heap.size := (by omega); have g1 := set_same (w := w1) (p := ⟨w.heap.size, 1, none⟩) (v := .int .i64 t) (by rw [hc _ _ (by first | (simp; done) | (simp; omega))]; simp [go_sem]))
        obtain ⟨e0, e1⟩ := ret_slot2 (w2 := (w1.setCell ⟨w.heap.size, 1, none⟩ (.int .i64 u))) (b := w.heap.size + 1) (a0 := .int .i64 0) (a1 := .int .i64 0) (by rw [World.cell?_setCell_other _ _ _ _ (by simp), hc _ _ (by first | (simp; done) | (simp; omega))]; simp [go_sem]) (by rw [World.cell?_setCell_other _ _ _ _ (by simp), hc _ _ (by first | (simp; done) | (simp; omega))]; simp [go_sem])
        exact bodyPost_ret (v := .tuple #[sp f u, .bool true]) (by simp [results, Try.results23, go_sem, e0, e1]) rfl ⟨rfl, (by repeat (first | exact Below.refl _ _ | refine Below.alloc ?_ (by first | omega | (simp; done) | (simp; omega)) _ | refine Below.setCell ?_ (by first | omega | (simp; done) | (simp; omega)) _ | refine Below.drew ?_ | refine Below.trans ?_ (Below.mono (by assumption) (by first | omega | (simp; done) | (simp; omega)))))⟩
      · skip
        have hm : min t u = t := by omega
        obtain ⟨r1, r2, r3⟩ := ah_yes (u := u) ⟨h1, h2⟩
        rw [hm] at r3
        rw [r1, r2, r3]; clear r1 r2 r3
        have h3 : mayB f t = true := by rw [may_iff]; omega
        have h4 : decide (u ≤ f) = false := by simp; omega
        clear hm k1 h3
        go_enter Try.func23, Try.ntmps23
        go_wp2_with (go_at_call 32; (with_reducible refine (rmay_of _ _ _ _ h1).mono ?_); rintro e w1 ⟨rfl, hb⟩; obtain ⟨hc, hf⟩ := bcell hb; have hz := hb.size; (try simp at hz); have z0 : w.heap.size < w1.heap.size := (by omega); have z1 : w.heap.size + 1 < w1.heap.size := (by omega))
        obtain ⟨e0, e1⟩ := ret_slot (W := w.alloc (.cells #[.int .i64 f, .int .i64 t] 23)) (w1 := _) (b := w.heap.size + 1) (T := 23) (a0 := .int .i64 0) (a1 := .int .i64 0) (by simp) (hB := (by show Below _ _ w1; repeat (first | exact Below.refl _ _ | refine Below.alloc ?_ (by first | omega | (simp; done) | (simp; omega)) _ | refine Below.setCell ?_ (by first | omega | (simp; done) | (simp; omega)) _ | refine Below.drew ?_ | refine Below.trans ?_ (Below.mono (by assumption) (by first | omega | (simp; done) | (simp; omega))))))
        exact bodyPost_ret (v := .tuple #[sp f t, .bool true]) (by simp [results, Try.results23, go_sem, e0, e1]) rfl ⟨rfl, (by repeat (first | exact Below.refl _ _ | refine Below.alloc ?_ (by first | omega | (simp; done) | (simp; omega)) _ | refine Below.setCell ?_ (by first | omega | (simp; done) | (simp; omega)) _ | refine Below.drew ?_ | refine Below.trans ?_ (Below.mono (by assumption) (by first | omega | (simp; done) | (simp; omega)))))⟩
    · skip
      by_cases q1 : u < t
      · skip
        have hm : min t u = u := by omega
        obtain ⟨r1, r2, r3⟩ := ah_no (f := f) (t := t) (u := u) (by simp [h1]; omega)
        rw [r1, r2, r3]; clear r1 r2 r3
        have h3 : mayB f u = false := by rw [may_no]; omega
        have h4 : u ≤ f := by omega
        clear hm k1 h3
        go_enter Try.func23, Try.ntmps23
        go_wp2_with (go_at_call 32; (with_reducible refine (rmay_of _ _ _ _ h1).mono ?_); rintro e w1 ⟨rfl, hb⟩; obtain ⟨hc, hf⟩ := bcell hb; have hz := hb.size; (try simp at hz); have z0 : w.heap.size < w1.heap.size := (by omega); have z1 : w.heap.size + 1 < w1.heap.size := (by omega))
        obtain ⟨e0, e1⟩ := ret_slot (W := w.alloc (.cells #[.int .i64 f, .int .i64 t] 23)) (w1 := _) (b := w.heap.size + 1) (T := 23) (a0 := .int .i64 0) (a1 := .int .i64 0) (by simp) (hB := (by show Below _ _ w1; repeat (first | exact Below.refl _ _ | refine Below.alloc ?_ (by first | omega | (simp; done) | (simp; omega)) _ | refine Below.setCell ?_ (by first | omega | (simp; done) | (simp; omega)) _ | refine Below.drew ?_ | refine Below.trans ?_ (Below.mono (by assumption) (by first | omega | (simp; done) | (simp; omega))))))
        exact bodyPost_ret (v := .tuple #[sp 0 0, .bool false]) (by simp [results, Try.results23, go_sem, e0, e1]) rfl ⟨rfl, (by repeat (first | exact Below.refl _ _ | refine Below.alloc ?_ (by first | omega | (simp; done) | (simp; omega)) _ | refine Below.setCell ?_ (by first | omega | (simp; done) | (simp; omega)) _ | refine Below.drew ?_ | refine Below.trans ?_ (Below.mono (by assumption) (by first | omega | (simp; done) | (simp; omega)))))⟩
      · skip
        have hm : min t u = t := by omega
        obtain ⟨r1, r2, r3⟩ := ah_no (f := f) (t := t) (u := u) (by simp [h1]; omega)
        rw [r1, r2, r3]; clear r1 r2 r3
        have h3 : mayB f t = false := by rw [may_no]; omega
        have h4 : u ≤ f := by omega
        clear hm k1 h3
        go_enter Try.func23, Try.ntmps23
        go_wp2_with (go_at_call 32; (with_reducible refine (rmay_of _ _ _ _ h1).mono ?_); rintro e w1 ⟨rfl, hb⟩; obtain ⟨hc, hf⟩ := bcell hb; have hz := hb.size; (try simp at hz); have z0 : w.heap.size < w1.heap.size := (by omega); have z1 : w.heap.size + 1 < w1.heap.size := (by omega))
        obtain ⟨e0, e1⟩ := ret_slot (W := w.alloc (.cells #[.int .i64 f, .int .i64 t] 23)) (w1 := _) (b := w.heap.size + 1) (T := 23) (a0 := .int .i64 0) (a1 := .int .i64 0) (by simp) (hB := (by show Below _ _ w1; repeat (first | exact Below.refl _ _ | refine Below.alloc ?_ (by first | omega | (simp; done) | (simp; omega)) _ | refine Below.setCell ?_ (by first | omega | (simp; done) | (simp; omega)) _ | refine Below.drew ?_ | refine Below.trans ?_ (Below.mono (by assumption) (by first | omega | (simp; done) | (simp; omega))))))
        exact bodyPost_ret (v := .tuple #[sp 0 0, .bool false]) (by simp [results, Try.results23, go_sem, e0, e1]) rfl ⟨rfl, (by repeat (first | exact Below.refl _ _ | refine Below.alloc ?_ (by first | omega | (simp; done) | (simp; omega)) _ | refine Below.setCell ?_ (by first | omega | (simp; done) | (simp; omega)) _ | refine Below.drew ?_ | refine Below.trans ?_ (Below.mono (by assumption) (by first | omega | (simp; done) | (simp; omega)))))⟩

set_option maxHeartbeats 1000000 in
theorem rest_any (w : World) (f t u : Int) : Calls Try.prog 24 #[sp f t, .int .i64 u] w (PV (.tuple #[sp (reF f t u) (reT f t u), .bool (reB f t u)]) w) := by
  cases h1 : mayB f t with
  | false =>
    obtain ⟨r1, r2, r3⟩ := re_no (f := f) (t := t) (u := u) (by simp [h1])
    rw [r1, r2, r3]; clear r1 r2 r3
    go_enter Try.func24, Try.ntmps24
    go_wp2_with (go_at_call 15; (with_reducible refine (may_of _ _ _ _ h1).mono ?_); rintro e w1 ⟨rfl, hb⟩; obtain ⟨hc, hf⟩ := bcell hb; have hz := hb.size; (try simp at hz); have z0 : w.heap.size < w1.heap.size := (by omega); have z1 : w.heap.size + 1 < w1.heap.size := (by omega))
    obtain ⟨e0, e1⟩ := ret_slot (W := w.alloc (.cells #[.int .i64 f, .int .i64 t] 23)) (w1 := _) (b := w.heap.size + 1) (T := 23) (a0 := .int .i64 0) (a1 := .int .i64 0) (by simp) (hB := (by show Below _ _ w1; repeat (first | exact Below.refl _ _ | refine Below.alloc ?_ (by first | omega | (simp; done) | (simp; omega)) _ | refine Below.setCell ?_ (by first | omega | (simp; done) | (simp; omega)) _ | refine Below.drew ?_ | refine Below.trans ?_ (Below.mono (by assumption) (by first | omega | (simp; done) | (simp; omega))))))
    exact bodyPost_ret (v := .tuple #[sp 0 0, .bool false]) (by simp [results, Try.results24, go_sem, e0, e1]) rfl ⟨rfl, (by repeat (first | exact Below.refl _ _ | refine Below.alloc ?_ (by first | omega | (simp; done) | (simp; omega)) _ | refine Below.setCell ?_ (by first | omega | (simp; done) | (simp; omega)) _ | refine Below.drew ?_ | refine Below.trans ?_ (Below.mono (by assumption) (by first | omega | (simp; done) | (simp; omega)))))⟩
  | true =>
    have k1 := may_iff.1 h1
    by_cases h2 : u < t
    · skip
      by_cases q1 : f < u
      · skip
        have hm : max f u = u := by omega
        obtain ⟨r1, r2, r3⟩ := re_yes (u := u) ⟨h1, h2⟩
        rw [hm] at r2
        rw [r1, r2, r3]; clear r1 r2 r3
        have h3 : mayB u t = true := by rw [may_iff]; omega
        clear hm k1
        go_enter Try.func24, Try.ntmps24
        go_wp2_with (first | (go_at_call 15; (with_reducible refine (may_of _ _ _ _ h1).mono ?_); rintro e w1 ⟨rfl, hb⟩; obtain ⟨hc, hf⟩ := bcell hb; have hz := hb.size; (try simp at hz); have z0 : w.heap.size < w1.heap.size := (by omega); have z1 : w.heap.size + 1 < w1.heap.size := (by omega)) | (go_at_call 36; (with_reducible refine (told_yes _ _ _ h3).mono ?_); rintro e w1 ⟨rfl, hb⟩; obtain ⟨hc, hf⟩ := bcell hb; have hz := hb.size; (try simp at hz); have z0 : w.heap.size < w1.heap.size := (by omega); have z1 : w.heap.size + 1 < w1.heap.size := (by omega)))
        obtain ⟨e0, e1⟩ := ret_slot (W := w.alloc (.cells #[.int .i64 f, .int .i64 t] 23)) (w1 := _) (b := w.heap.size + 1) (T := 23) (a0 := .int .i64 0) (a1 := .int .i64 0) (by simp) (hB := (by show Below _ _ w1; repeat (first | exact Below.refl _ _ | refine Below.alloc ?_ (by first | omega | (simp; done) | (simp; omega)) _ | refine Below.setCell ?_ (by first | omega | (simp; done) | (simp; omega)) _ | refine Below.drew ?_ | refine Below.trans ?_ (Below.mono (by assumption) (by first | omega | (simp; done) | (simp; omega))))))
        exact bodyPost_ret (v := .tuple #[sp u t, .bool true]) (by simp [results, Try.results24, go_sem, e0, e1]) rfl ⟨rfl, (by repeat (first | exact Below.refl _ _ | refine Below.alloc ?_ (by first | omega | (simp; done) | (simp; omega)) _ | refine Below.setCell ?_ (by first | omega | (simp; done) | (simp; omega)) _ | refine Below.drew ?_ | refine Below.trans ?_ (Below.mono (by assumption) (by first | omega | (simp; done) | (simp; omega)))))⟩
      · skip
        have hm : max f u = f := by omega
        obtain ⟨r1, r2, r3⟩ := re_yes (u := u) ⟨h1, h2⟩
        rw [hm] at r2
        rw [r1, r2, r3]; clear r1 r2 r3
        have h3 : mayB f t = true := by rw [may_iff]; omega
        clear hm k1
        go_enter Try.func24, Try.ntmps24
        go_wp2_with (first | (go_at_call 15; (with_reducible refine (may_of _ _ _ _ h1).mono ?_); rintro e w1 ⟨rfl, hb⟩; obtain ⟨hc, hf⟩ := bcell hb; have hz := hb.size; (try simp at hz); have z0 : w.heap.size < w1.heap.size := (by omega); have z1 : w.heap.size + 1 < w1.heap.size := (by omega)) | (go_at_call 36; (with_reducible refine (told_yes _ _ _ h3).mono ?_); rintro e w1 ⟨rfl, hb⟩; obtain ⟨hc, hf⟩ := bcell hb; have hz := hb.size; (try simp at hz); have z0 : w.heap.size < w1.heap.size := (by omega); have z1 : w.heap.size + 1 < w1.heap.size := (by omega)))
        obtain ⟨e0, e1⟩ := ret_slot (W := w.alloc (.cells #[.int .i64 f, .int .i64 t] 23)) (w1 := _) (b := w.heap.size + 1) (T := 23) (a0 := .int .i64 0) (a1 := .int .i64 0) (by simp) (hB := (by show Below _ _ w1; repeat (first | exact Below.refl _ _ | refine Below.alloc ?_ (by first | omega | (simp; done) | (simp; omega)) _ | refine Below.setCell ?_ (by first | omega | (simp; done) | (simp; omega)) _ | refine Below.drew ?_ | refine Below.trans ?_ (Below.mono (by assumption) (by first | omega | (simp; done) | (simp; omega))))))
        exact bodyPost_ret (v := .tuple #[sp f t, .bool true]) (by simp [results, Try.results24, go_sem, e0, e1]) rfl ⟨rfl, (by repeat (first | exact Below.refl _ _ | refine Below.alloc ?_ (by first | omega | (simp; done) | (simp; omega)) _ | refine Below.setCell ?_ (by first | omega | (simp; done) | (simp; omega)) _ | refine Below.drew ?_ | refine Below.trans ?_ (Below.mono (by assumption) (by first | omega | (simp; done) | (simp; omega)))))⟩
    · skip
      by_cases q1 : f < u
      · skip
        have hm : max f u = u := by omega
        obtain ⟨r1, r2, r3⟩ := re_no (f := f) (t := t) (u := u) (by simp [h1]; omega)
        rw [r1, r2, r3]; clear r1 r2 r3
        have h3 : mayB u t = false := by rw [may_no]; omega
        clear hm k1
        go_enter Try.func24, Try.ntmps24
        go_wp2_with (first | (go_at_call 15; (with_reducible refine (may_of _ _ _ _ h1).mono ?_); rintro e w1 ⟨rfl, hb⟩; obtain ⟨hc, hf⟩ := bcell hb; have hz := hb.size; (try simp at hz); have z0 : w.heap.size < w1.heap.size := (by omega); have z1 : w.heap.size + 1 < w1.heap.size := (by omega)) | (go_at_call 36; (with_reducible refine (told_no _ _ _ h3).mono ?_); rintro e w1 ⟨rfl, hb⟩; obtain ⟨hc, hf⟩ := bcell hb; have hz := hb.size; (try simp at hz); have z0 : w.heap.size < w1.heap.size := (by omega); have z1 : w.heap.size + 1 < w1.heap.size := (by omega)))
        obtain ⟨e0, e1⟩ := ret_slot (W := w.alloc (.cells #[.int .i64 f, .int .i64 t] 23)) (w1 := _) (b := w.heap.size + 1) (T := 23) (a0 := .int .i64 0) (a1 := .int .i64 0) (by simp) (hB := (by show Below _ _ w1; repeat (first | exact Below.refl _ _ | refine Below.alloc ?_ (by first | omega | (simp; done) | (simp; omega)) _ | refine Below.setCell ?_ (by first | omega | (simp; done) | (simp; omega)) _ | refine Below.drew ?_ | refine Below.trans ?_ (Below.mono (by assumption) (by first | omega | (simp; done) | (simp; omega))))))
        exact bodyPost_ret (v := .tuple #[sp 0 0, .bool false]) (by simp [results, Try.results24, go_sem, e0, e1]) rfl ⟨rfl, (by repeat (first | exact Below.refl _ _ | refine Below.alloc ?_ (by first | omega | (simp; done) | (simp; omega)) _ | refine Below.setCell ?_ (by first | omega | (simp; done) | (simp; omega)) _ | refine Below.drew ?_ | refine Below.trans ?_ (Below.mono (by assumption) (by first | omega | (simp; done) | (simp; omega)))))⟩
      · skip
        have hm : max f u = f := by omega
        obtain ⟨r1, r2, r3⟩ := re_no (f := f) (t := t) (u := u) (by simp [h1]; omega)
        rw [r1, r2, r3]; clear r1 r2 r3
        have h3 : mayB f t = false := by rw [may_no]; omega
        clear hm k1
        go_enter Try.func24, Try.ntmps24
        go_wp2_with (first | (go_at_call 15; (with_reducible refine (may_of _ _ _ _ h1).mono ?_); rintro e w1 ⟨rfl, hb⟩; obtain ⟨hc, hf⟩ := bcell hb; have hz := hb.size; (try simp at hz); have z0 : w.heap.size < w1.heap.size := (by omega); have z1 : w.heap.size + 1 < w1.heap.size := (by omega)) | (go_at_call 36; (with_reducible refine (told_no _ _ _ h3).mono ?_); rintro e w1 ⟨rfl, hb⟩; obtain ⟨hc, hf⟩ := bcell hb; have hz := hb.size; (try simp at hz); have z0 : w.heap.size < w1.heap.size := (by omega); have z1 : w.heap.size + 1 < w1.heap.size := (by omega)))
        obtain ⟨e0, e1⟩ := ret_slot (W := w.alloc (.cells #[.int .i64 f, .int .i64 t] 23)) (w1 := _) (b := w.heap.size + 1) (T := 23) (a0 := .int .i64 0) (a1 := .int .i64 0) (by simp) (hB := (by show Below _ _ w1; repeat (first | exact Below.refl _ _ | refine Below.alloc ?_ (by first | omega | (simp; done) | (simp; omega)) _ | refine Below.setCell ?_ (by first | omega | (simp; done) | (simp; omega)) _ | refine Below.drew ?_ | refine Below.trans ?_ (Below.mono (by assumption) (by first | omega | (simp; done) | (simp; omega))))))
        exact bodyPost_ret (v := .tuple #[sp 0 0, .bool false]) (by simp [results, Try.results24, go_sem, e0, e1]) rfl ⟨rfl, (by repeat (first | exact Below.refl _ _ | refine Below.alloc ?_ (by first | omega | (simp; done) | (simp; omega)) _ | refine Below.setCell ?_ (by first | omega | (simp; done) | (simp; omega)) _ | refine Below.drew ?_ | refine Below.trans ?_ (Below.mono (by assumption) (by first | omega | (simp; done) | (simp; omega)))))⟩

set_option maxHeartbeats 1000000 in
theorem rrest_any (w : World) (f t u : Int) : Calls Try.prog 25 #[sp f t, .int .i64 u] w (PV (.tuple #[sp (reF f t u) (reT f t u), .bool (reB f t u)]) w) := by
  cases h1 : mayB f t with
  | false =>
    obtain ⟨r1, r2, r3⟩ := re_no (f := f) (t := t) (u := u) (by simp [h1])
    rw [r1, r2, r3]; clear r1 r2 r3
    go_enter Try.func25, Try.ntmps25
    go_wp2_with (go_at_call 32; (with_reducible refine (rmay_of _ _ _ _ h1).mono ?_); rintro e w1 ⟨rfl, hb⟩; obtain ⟨hc, hf⟩ := bcell hb; have hz := hb.size; (try simp at hz); have z0 : w.heap.size < w1.heap.size := (by omega); have z1 : w.heap.size + 1 < w1.heap.size := (by omega))
    obtain ⟨e0, e1⟩ := ret_slot (W := w.alloc (.cells #[.int .i64 f, .int .i64 t] 23)) (w1 := _) (b := w.heap.size + 1) (T := 23) (a0 := .int .i64 0) (a1 := .int .i64 0) (by simp) (hB := (by show Below _ _ w1; repeat (first | exact Below.refl _ _ | refine Below.alloc ?_ (by first | omega | (simp; done) | (simp; omega)) _ | refine Below.setCell ?_ (by first | omega | (simp; done) | (simp; omega)) _ | refine Below.drew ?_ | refine Below.trans ?_ (Below.mono (by assumption) (by first | omega | (simp; done) | (simp; omega))))))
    exact bodyPost_ret (v := .tuple #[sp 0 0, .bool false]) (by simp [results, Try.results25, go_sem, e0, e1]) rfl ⟨rfl, (by repeat (first | exact Below.refl _ _ | refine Below.alloc ?_ (by first | omega | (simp; done) | (simp; omega)) _ | refine Below.setCell ?_ (by first | omega | (simp; done) | (simp; omega)) _ | refine Below.drew ?_ | refine Below.trans ?_ (Below.mono (by assumption) (by first | omega | (simp; done) | (simp; omega)))))⟩
  | true =>
    have k1 := may_iff.1 h1
    by_cases h2 : u < t
    · skip
      by_cases q1 : f < u
      · skip
        have hm : max f u = u := by omega
        obtain ⟨r1, r2, r3⟩ := re_yes (u := u) ⟨h1, h2⟩
        rw [hm] at r2
        rw [r1, r2, r3]; clear r1 r2 r3
        have h3 : mayB u t = true := by rw [may_iff]; omega
        have h4 : decide (t ≤ u) = false := by simp; omega
        clear hm k1 h3
        go_enter Try.func25, Try.ntmps25
        go_wp2_with (go_at_call 32; (with_reducible refine (rmay_of _ _ _ _ h1).mono ?_); rintro e w1 ⟨rfl, hb⟩; obtain ⟨hc, hf⟩ := bcell hb; have hz := hb.size; (try simp at hz); have z0 : w.heap.size < w1.heap.size := (by omega); have z1 : w.heap.size + 1 < w1.heap.size := (by omega); have g1 := set_same (w := w1) (p := ⟨w.heap.size, 0, none⟩) (v := .int .i64 f) (by rw [hc _ _ (by first | (simp; done) | (simp; omega))]; simp [go_sem]))
        obtain ⟨e0, e1⟩ := ret_slot2 (w2 := (w1.setCell ⟨w.heap.size, 0, none⟩ (.int .i64 u))) (b := w.heap.size + 1) (a0 := .int .i64 0) (a1 := .int .i64 0) (by rw [World.cell?_setCell_other _ _ _ _ (by simp), hc _ _ (by first | (simp; done) | (simp; omega))]; simp [go_sem]) (by rw [World.cell?_setCell_other _ _ _ _ (by simp), hc _ _ (by first | (simp; done) | (simp; omega))]; simp [go_sem])
        exact bodyPost_ret (v := .tuple #[sp u t, .bool true]) (by simp [results, Try.results25, go_sem, e0, e1]) rfl ⟨rfl, (by repeat (first | exact Below.refl _ _ | refine Below.alloc ?_ (by first | omega | (simp; done) | (simp; omega)) _ | refine Below.setCell ?_ (by first | omega | (simp; done) | (simp; omega)) _ | refine Below.drew ?_ | refine Below.trans ?_ (Below.mono (by assumption) (by first | omega | (simp; done) | (simp; omega)))))⟩
      · skip
        have hm : max f u = f := by omega
        obtain ⟨r1, r2, r3⟩ := re_yes (u := u) ⟨h1, h2⟩
        rw [hm] at r2
        rw [r1, r2, r3]; clear r1 r2 r3
        have h3 : mayB f t = true := by rw [may_iff]; omega
        have h4 : decide (t ≤ u) = false := by simp; omega
        clear hm k1 h3
        go_enter Try.func25, Try.ntmps25
        go_wp2_with (go_at_call 32; (with_reducible refine (rmay_of _ _ _ _ h1).mono ?_); rintro e w1 ⟨rfl, hb⟩; obtain ⟨hc, hf⟩ := bcell hb; have hz := hb.size; (try simp at hz); have z0 : w.heap.size < w1.heap.size := (by omega); have z1 : w.heap.size + 1 < w1.heap.size := (by omega))
        obtain ⟨e0, e1⟩ := ret_slot (W := w.alloc (.cells #[.int .i64 f, .int .i64 t] 23)) (w1 := _) (b := w.heap.size + 1) (T := 23) (a0 := .int .i64 0) (a1 := .int .i64 0) (by simp) (hB := (by show Below _ _ w1; repeat (first | exact Below.refl _ _ | refine Below.alloc ?_ (by first | omega | (simp; done) | (simp; omega)) _ | refine Below.setCell ?_ (by first | omega | (simp; done) | (simp; omega)) _ | refine Below.drew ?_ | refine Below.trans ?_ (Below.mono (by assumption) (by first | omega | (simp; done) | (simp; omega))))))
        exact bodyPost_ret (v := .tuple #[sp f t, .bool true]) (by simp [results, Try.results25, go_sem, e0, e1]) rfl ⟨rfl, (by repeat (first | exact Below.refl _ _ | refine Below.alloc ?_ (by first | omega | (simp; done) | (simp; omega)) _ | refine Below.setCell ?_ (by first | omega | (simp; done) | (simp; omega)) _ | refine Below.drew ?_ | refine Below.trans ?_ (Below.mono (by assumption) (by first | omega | (simp; done) | (simp; omega)))))⟩
    · skip
      by_cases q1 : f < u
      · skip
        have hm : max f u = u := by omega
        obtain ⟨r1, r2, r3⟩ := re_no (f := f) (t := t) (u := u) (by simp [h1]; omega)
        rw [r1, r2, r3]; clear r1 r2 r3
        have h3 : mayB u t = false := by rw [may_no]; omega
        have h4 : t ≤ u := by omega
        clear hm k1 h3
        go_enter Try.func25, Try.ntmps25
        go_wp2_with (go_at_call 32; (with_reducible refine (rmay_of _ _ _ _ h1).mono ?_); rintro e w1 ⟨rfl, hb⟩; obtain ⟨hc, hf⟩ := bcell hb; have hz := hb.size; (try simp at hz); have z0 : w.heap.size < w1.heap.size := (by omega); have z1 : w.heap.size + 1 < w1.heap.size := (by omega))
        obtain ⟨e0, e1⟩ := ret_slot (W := w.alloc (.cells #[.int .i64 f, .int .i64 t] 23)) (w1 := _) (b := w.heap.size + 1) (T := 23) (a0 := .int .i64 0) (a1 := .int .i64 0) (by simp) (hB := (by show Below _ _ w1; repeat (first | exact Below.refl _ _ | refine Below.alloc ?_ (by first | omega | (simp; done) | (simp; omega)) _ | refine Below.setCell ?_ (by first | omega | (simp; done) | (simp; omega)) _ | refine Below.drew ?_ | refine Below.trans ?_ (Below.mono (by assumption) (by first | omega | (simp; done) | (simp; omega))))))
        exact bodyPost_ret (v := .tuple #[sp 0 0, .bool false]) (by simp [results, Try.results25, go_sem, e0, e1]) rfl ⟨rfl, (by repeat (first | exact Below.refl _ _ | refine Below.alloc ?_ (by first | omega | (simp; done) | (simp; omega)) _ | refine Below.setCell ?_ (by first | omega | (simp; done) | (simp; omega)) _ | refine Below.drew ?_ | refine Below.trans ?_ (Below.mono (by assumption) (by first | omega | (simp; done) | (simp; omega)))))⟩
      · skip
        have hm : max f u = f := by omega
        obtain ⟨r1, r2, r3⟩ := re_no (f := f) (t := t) (u := u) (by simp [h1]; omega)
        rw [r1, r2, r3]; clear r1 r2 r3
        have h3 : mayB f t = false := by rw [may_no]; omega
        have h4 : t ≤ u := by omega
        clear hm k1 h3
        go_enter Try.func25, Try.ntmps25
        go_wp2_with (go_at_call 32; (with_reducible refine (rmay_of _ _ _ _ h1).mono ?_); rintro e w1 ⟨rfl, hb⟩; obtain ⟨hc, hf⟩ := bcell hb; have hz := hb.size; (try simp at hz); have z0 : w.heap.size < w1.heap.size := (by omega); have z1 : w.heap.size + 1 < w1.heap.size := (by omega))
        obtain ⟨e0, e1⟩ := ret_slot (W := w.alloc (.cells #[.int .i64 f, .int .i64 t] 23)) (w1 := _) (b := w.heap.size + 1) (T := 23) (a0 := .int .i64 0) (a1 := .int .i64 0) (by simp) (hB := (by show Below _ _ w1; repeat (first | exact Below.refl _ _ | refine Below.alloc ?_ (by first | omega | (simp; done) | (simp; omega)) _ | refine Below.setCell ?_ (by first | omega | (simp; done) | (simp; omega)) _ | refine Below.drew ?_ | refine Below.trans ?_ (Below.mono (by assumption) (by first | omega | (simp; done) | (simp; omega))))))
        exact bodyPost_ret (v := .tuple #[sp 0 0, .bool false]) (by simp [results, Try.results25, go_sem, e0, e1]) rfl ⟨rfl, (by repeat (first | exact Below.refl _ _ | refine Below.alloc ?_ (by first | omega | (simp; done) | (simp; omega)) _ | refine Below.setCell ?_ (by first | omega | (simp; done) | (simp; omega)) _ | refine Below.drew ?_ | refine Below.trans ?_ (Below.mono (by assumption) (by first | omega | (simp; done) | (simp; omega)))))⟩

end Go.Proofs.Ytghlkpaadahpaaa
