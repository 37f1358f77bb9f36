/- Contracts of Meet, Ahead, Rest, the program's and the reference's. -/
import Derived.Test.YtghlkpaadahpaaaA
namespace Go.Proofs.Ytghlkpaadahpaaa
open Go.RowKit Fl

def meetB (a b c d : Int) : Bool := decide (mayB a b = true ∧ mayB c d = true ∧ max a c < min b d)
def mtF (a b c d : Int) : Int := if meetB a b c d then max a c else 0
def mtT (a b c d : Int) : Int := if meetB a b c d then min b d else 0
theorem meet_iff {a b c d : Int} : meetB a b c d = true ↔ (mayB a b = true ∧ mayB c d = true ∧ max a c < min b d) := by simp [meetB]
theorem meet_may {a b c d : Int} (h1 : mayB a b = true) (h2 : mayB c d = true) : meetB a b c d = mayB (max a c) (min b d) := by
  have k1 := may_iff.1 h1
  have k2 := may_iff.1 h2
  have e : meetB a b c d = true ↔ max a c < min b d := by rw [meet_iff]; exact ⟨fun ⟨_, _, h⟩ => h, fun h => ⟨h1, h2, h⟩⟩
  rw [Bool.eq_iff_iff, e, may_iff]
  omega
theorem meet_no1 {a b c d : Int} (h1 : mayB a b = false) : meetB a b c d = false ∧ mtF a b c d = 0 ∧ mtT a b c d = 0 := by
  have : meetB a b c d = false := by simp [meetB, h1]
  simp [mtF, mtT, this]
theorem meet_no2 {a b c d : Int} (h2 : mayB c d = false) : meetB a b c d = false ∧ mtF a b c d = 0 ∧ mtT a b c d = 0 := by
  have : meetB a b c d = false := by simp [meetB, h2]
  simp [mtF, mtT, this]
theorem meet_no3 {a b c d : Int} (h1 : mayB a b = true) (h2 : mayB c d = true) (h3 : mayB (max a c) (min b d) = false) : meetB a b c d = false ∧ mtF a b c d = 0 ∧ mtT a b c d = 0 := by
  have : meetB a b c d = false := by rw [meet_may h1 h2]; exact h3
  simp [mtF, mtT, this]
theorem meet_yes {a b c d : Int} (h1 : mayB a b = true) (h2 : mayB c d = true) (h3 : mayB (max a c) (min b d) = true) : meetB a b c d = true ∧ mtF a b c d = max a c ∧ mtT a b c d = min b d := by
  have : meetB a b c d = true := by rw [meet_may h1 h2]; exact h3
  simp [mtF, mtT, this]

set_option maxHeartbeats 1000000 in
theorem meet_any (w : World) (a b c d : Int) : Calls Try.prog 20 #[sp a b, sp c d] w (PV (.tuple #[sp (mtF a b c d) (mtT a b c d), .bool (meetB a b c d)]) w) := by
  cases h1 : mayB a b with
  | false =>
    obtain ⟨r1, r2, r3⟩ := meet_no1 (c := c) (d := d) h1
    rw [r1, r2, r3]; clear r1 r2 r3
    go_enter Try.func20, Try.ntmps20
    go_wp2_with (go_at_call 15; (with_reducible refine (may_of _ _ _ _ h1).mono ?_); rintro e w1 ⟨rfl, hb⟩; obtain ⟨hc, hf⟩ := bcell hb; have hz := hb.size; (try simp at hz); have z0 : w.heap.size < w1.heap.size := (by omega); have z1 : w.heap.size + 1 < w1.heap.size := (by omega); have z2 : w.heap.size + 1 + 1 < w1.heap.size := (by omega))
    obtain ⟨e0, e1⟩ := ret_slot (W := (w.alloc (.cells #[.int .i64 a, .int .i64 b] 23)).alloc (.cells #[.int .i64 c, .int .i64 d] 23)) (w1 := _) (b := w.heap.size + 1 + 1) (T := 23) (a0 := .int .i64 0) (a1 := .int .i64 0) (by simp) (hB := (by show Below _ _ w1; repeat (first | exact Below.refl _ _ | refine Below.alloc ?_ (by first | omega | (simp; done) | (simp; omega)) _ | refine Below.setCell ?_ (by first | omega | (simp; done) | (simp; omega)) _ | refine Below.drew ?_ | refine Below.trans ?_ (Below.mono (by assumption) (by first | omega | (simp; done) | (simp; omega))))))
    exact bodyPost_ret (v := .tuple #[sp 0 0, .bool false]) (by simp [results, Try.results20, go_sem, e0, e1]) rfl ⟨rfl, (by repeat (first | exact Below.refl _ _ | refine Below.alloc ?_ (by first | omega | (simp; done) | (simp; omega)) _ | refine Below.setCell ?_ (by first | omega | (simp; done) | (simp; omega)) _ | refine Below.drew ?_ | refine Below.trans ?_ (Below.mono (by assumption) (by first | omega | (simp; done) | (simp; omega)))))⟩
  | true =>
    cases h2 : mayB c d with
    | false =>
      obtain ⟨r1, r2, r3⟩ := meet_no2 (a := a) (b := b) h2
      rw [r1, r2, r3]; clear r1 r2 r3
      go_enter Try.func20, Try.ntmps20
      go_wp2_with (first | (go_at_call 15; (with_reducible refine (may_of _ _ _ _ h1).mono ?_); rintro e w1 ⟨rfl, hb⟩; obtain ⟨hc, hf⟩ := bcell hb; have hz := hb.size; (try simp at hz); have z0 : w.heap.size < w1.heap.size := (by omega); have z1 : w.heap.size + 1 < w1.heap.size := (by omega); have z2 : w.heap.size + 1 + 1 < w1.heap.size := (by omega)) | (go_at_call 15; (with_reducible refine (may_of _ _ _ _ h2).mono ?_); rintro e w1 ⟨rfl, hb⟩; obtain ⟨hc, hf⟩ := bcell hb; have hz := hb.size; (try simp at hz); have z0 : w.heap.size < w1.heap.size := (by omega); have z1 : w.heap.size + 1 < w1.heap.size := (by omega); have z2 : w.heap.size + 1 + 1 < w1.heap.size := (by omega)))
      obtain ⟨e0, e1⟩ := ret_slot (W := (w.alloc (.cells #[.int .i64 a, .int .i64 b] 23)).alloc (.cells #[.int .i64 c, .int .i64 d] 23)) (w1 := _) (b := w.heap.size + 1 + 1) (T := 23) (a0 := .int .i64 0) (a1 := .int .i64 0) (by simp) (hB := (by show Below _ _ w1; repeat (first | exact Below.refl _ _ | refine Below.alloc ?_ (by first | omega | (simp; done) | (simp; omega)) _ | refine Below.setCell ?_ (by first | omega | (simp; done) | (simp; omega)) _ | refine Below.drew ?_ | refine Below.trans ?_ (Below.mono (by assumption) (by first | omega | (simp; done) | (simp; omega))))))
      exact bodyPost_ret (v := .tuple #[sp 0 0, .bool false]) (by simp [results, Try.results20, go_sem, e0, e1]) rfl ⟨rfl, (by repeat (first | exact Below.refl _ _ | refine Below.alloc ?_ (by first | omega | (simp; done) | (simp; omega)) _ | refine Below.setCell ?_ (by first | omega | (simp; done) | (simp; omega)) _ | refine Below.drew ?_ | refine Below.trans ?_ (Below.mono (by assumption) (by first | omega | (simp; done) | (simp; omega)))))⟩
    | true =>
      cases h3 : mayB (max a c) (min b d) with
      | false =>
        obtain ⟨r1, r2, r3⟩ := meet_no3 h1 h2 h3
        rw [r1, r2, r3]; clear r1 r2 r3
        by_cases q1 : a < c
        · skip
          by_cases q2 : d < b
          · skip
            have hm : max a c = c := by omega
            have hn : min b d = d := by omega
            rw [hm, hn] at h3
            clear hm hn
            go_enter Try.func20, Try.ntmps20
            go_wp2_with (first | (go_at_call 15; (with_reducible refine (may_of _ _ _ _ h1).mono ?_); rintro e w1 ⟨rfl, hb⟩; obtain ⟨hc, hf⟩ := bcell hb; have hz := hb.size; (try simp at hz); have z0 : w.heap.size < w1.heap.size := (by omega); have z1 : w.heap.size + 1 < w1.heap.size := (by omega); have z2 : w.heap.size + 1 + 1 < w1.heap.size := (by omega)) | (go_at_call 15; (with_reducible refine (may_of _ _ _ _ h2).mono ?_); rintro e w1 ⟨rfl, hb⟩; obtain ⟨hc, hf⟩ := bcell hb; have hz := hb.size; (try simp at hz); have z0 : w.heap.size < w1.heap.size := (by omega); have z1 : w.heap.size + 1 < w1.heap.size := (by omega); have z2 : w.heap.size + 1 + 1 < w1.heap.size := (by omega)) | (go_at_call 36; (with_reducible refine (told_no _ _ _ h3).mono ?_); rintro e w1 ⟨rfl, hb⟩; obtain ⟨hc, hf⟩ := bcell hb; have hz := hb.size; (try simp at hz); have z0 : w.heap.size < w1.heap.size := (by omega); have z1 : w.heap.size + 1 < w1.heap.size := (by omega); have z2 : w.heap.size + 1 + 1 < w1.heap.size := (by omega)))
            obtain ⟨e0, e1⟩ := ret_slot (W := (w.alloc (.cells #[.int .i64 a, .int .i64 b] 23)).alloc (.cells #[.int .i64 c, .int .i64 d] 23)) (w1 := _) (b := w.heap.size + 1 + 1) (T := 23) (a0 := .int .i64 0) (a1 := .int .i64 0) (by simp) (hB := (by show Below _ _ w1; repeat (first | exact Below.refl _ _ | refine Below.alloc ?_ (by first | omega | (simp; done) | (simp; omega)) _ | refine Below.setCell ?_ (by first | omega | (simp; done) | (simp; omega)) _ | refine Below.drew ?_ | refine Below.trans ?_ (Below.mono (by assumption) (by first | omega | (simp; done) | (simp; omega))))))
            exact bodyPost_ret (v := .tuple #[sp 0 0, .bool false]) (by simp [results, Try.results20, go_sem, e0, e1]) rfl ⟨rfl, (by repeat (first | exact Below.refl _ _ | refine Below.alloc ?_ (by first | omega | (simp; done) | (simp; omega)) _ | refine Below.setCell ?_ (by first | omega | (simp; done) | (simp; omega)) _ | refine Below.drew ?_ | refine Below.trans ?_ (Below.mono (by assumption) (by first | omega | (simp; done) | (simp; omega)))))⟩
          · skip
            have hm : max a c = c := by omega
            have hn : min b d = b := by omega
            rw [hm, hn] at h3
            clear hm hn
            go_enter Try.func20, Try.ntmps20
            go_wp2_with (first | (go_at_call 15; (with_reducible refine (may_of _ _ _ _ h1).mono ?_); rintro e w1 ⟨rfl, hb⟩; obtain ⟨hc, hf⟩ := bcell hb; have hz := hb.size; (try simp at hz); have z0 : w.heap.size < w1.heap.size := (by omega); have z1 : w.heap.size + 1 < w1.heap.size := (by omega); have z2 : w.heap.size + 1 + 1 < w1.heap.size := (by omega)) | (go_at_call 15; (with_reducible refine (may_of _ _ _ _ h2).mono ?_); rintro e w1 ⟨rfl, hb⟩; obtain ⟨hc, hf⟩ := bcell hb; have hz := hb.size; (try simp at hz); have z0 : w.heap.size < w1.heap.size := (by omega); have z1 : w.heap.size + 1 < w1.heap.size := (by omega); have z2 : w.heap.size + 1 + 1 < w1.heap.size := (by omega)) | (go_at_call 36; (with_reducible refine (told_no _ _ _ h3).mono ?_); rintro e w1 ⟨rfl, hb⟩; obtain ⟨hc, hf⟩ := bcell hb; have hz := hb.size; (try simp at hz); have z0 : w.heap.size < w1.heap.size := (by omega); have z1 : w.heap.size + 1 < w1.heap.size := (by omega); have z2 : w.heap.size + 1 + 1 < w1.heap.size := (by omega)))
            obtain ⟨e0, e1⟩ := ret_slot (W := (w.alloc (.cells #[.int .i64 a, .int .i64 b] 23)).alloc (.cells #[.int .i64 c, .int .i64 d] 23)) (w1 := _) (b := w.heap.size + 1 + 1) (T := 23) (a0 := .int .i64 0) (a1 := .int .i64 0) (by simp) (hB := (by show Below _ _ w1; repeat (first | exact Below.refl _ _ | refine Below.alloc ?_ (by first | omega | (simp; done) | (simp; omega)) _ | refine Below.setCell ?_ (by first | omega | (simp; done) | (simp; omega)) _ | refine Below.drew ?_ | refine Below.trans ?_ (Below.mono (by assumption) (by first | omega | (simp; done) | (simp; omega))))))
            exact bodyPost_ret (v := .tuple #[sp 0 0, .bool false]) (by simp [results, Try.results20, go_sem, e0, e1]) rfl ⟨rfl, (by repeat (first | exact Below.refl _ _ | refine Below.alloc ?_ (by first | omega | (simp; done) | (simp; omega)) _ | refine Below.setCell ?_ (by first | omega | (simp; done) | (simp; omega)) _ | refine Below.drew ?_ | refine Below.trans ?_ (Below.mono (by assumption) (by first | omega | (simp; done) | (simp; omega)))))⟩
        · skip
          by_cases q2 : d < b
          · skip
            have hm : max a c = a := by omega
            have hn : min b d = d := by omega
            rw [hm, hn] at h3
            clear hm hn
            go_enter Try.func20, Try.ntmps20
            go_wp2_with (first | (go_at_call 15; (with_reducible refine (may_of _ _ _ _ h1).mono ?_); rintro e w1 ⟨rfl, hb⟩; obtain ⟨hc, hf⟩ := bcell hb; have hz := hb.size; (try simp at hz); have z0 : w.heap.size < w1.heap.size := (by omega); have z1 : w.heap.size + 1 < w1.heap.size := (by omega); have z2 : w.heap.size + 1 + 1 < w1.heap.size := (by omega)) | (go_at_call 15; (with_reducible refine (may_of _ _ _ _ h2).mono ?_); rintro e w1 ⟨rfl, hb⟩; obtain ⟨hc, hf⟩ := bcell hb; have hz := hb.size; (try simp at hz); have z0 : w.heap.size < w1.heap.size := (by omega); have z1 : w.heap.size + 1 < w1.heap.size := (by omega); have z2 : w.heap.size + 1 + 1 < w1.heap.size := (by omega)) | (go_at_call 36; (with_reducible refine (told_no _ _ _ h3).mono ?_); rintro e w1 ⟨rfl, hb⟩; obtain ⟨hc, hf⟩ := bcell hb; have hz := hb.size; (try simp at hz); have z0 : w.heap.size < w1.heap.size := (by omega); have z1 : w.heap.size + 1 < w1.heap.size := (by omega); have z2 : w.heap.size + 1 + 1 < w1.heap.size := (by omega)))
            obtain ⟨e0, e1⟩ := ret_slot (W := (w.alloc (.cells #[.int .i64 a, .int .i64 b] 23)).alloc (.cells #[.int .i64 c, .int .i64 d] 23)) (w1 := _) (b := w.heap.size + 1 + 1) (T := 23) (a0 := .int .i64 0) (a1 := .int .i64 0) (by simp) (hB := (by show Below _ _ w1; repeat (first | exact Below.refl _ _ | refine Below.alloc ?_ (by first | omega | (simp; done) | (simp; omega)) _ | refine Below.setCell ?_ (by first | omega | (simp; done) | (simp; omega)) _ | refine Below.drew ?_ | refine Below.trans ?_ (Below.mono (by assumption) (by first | omega | (simp; done) | (simp; omega))))))
            exact bodyPost_ret (v := .tuple #[sp 0 0, .bool false]) (by simp [results, Try.results20, go_sem, e0, e1]) rfl ⟨rfl, (by repeat (first | exact Below.refl _ _ | refine Below.alloc ?_ (by first | omega | (simp; done) | (simp; omega)) _ | refine Below.setCell ?_ (by first | omega | (simp; done) | (simp; omega)) _ | refine Below.drew ?_ | refine Below.trans ?_ (Below.mono (by assumption) (by first | omega | (simp; done) | (simp; omega)))))⟩
          · skip
            have hm : max a c = a := by omega
            have hn : min b d = b := by omega
            rw [hm, hn] at h3
            clear hm hn
            go_enter Try.func20, Try.ntmps20
            go_wp2_with (first | (go_at_call 15; (with_reducible refine (may_of _ _ _ _ h1).mono ?_); rintro e w1 ⟨rfl, hb⟩; obtain ⟨hc, hf⟩ := bcell hb; have hz := hb.size; (try simp at hz); have z0 : w.heap.size < w1.heap.size := (by omega); have z1 : w.heap.size + 1 < w1.heap.size := (by omega); have z2 : w.heap.size + 1 + 1 < w1.heap.size := (by omega)) | (go_at_call 15; (with_reducible refine (may_of _ _ _ _ h2).mono ?_); rintro e w1 ⟨rfl, hb⟩; obtain ⟨hc, hf⟩ := bcell hb; have hz := hb.size; (try simp at hz); have z0 : w.heap.size < w1.heap.size := (by omega); have z1 : w.heap.size + 1 < w1.heap.size := (by omega); have z2 : w.heap.size + 1 + 1 < w1.heap.size := (by omega)) | (go_at_call 36; (with_reducible refine (told_no _ _ _ h3).mono ?_); rintro e w1 ⟨rfl, hb⟩; obtain ⟨hc, hf⟩ := bcell hb; have hz := hb.size; (try simp at hz); have z0 : w.heap.size < w1.heap.size := (by omega); have z1 : w.heap.size + 1 < w1.heap.size := (by omega); have z2 : w.heap.size + 1 + 1 < w1.heap.size := (by omega)))
            obtain ⟨e0, e1⟩ := ret_slot (W := (w.alloc (.cells #[.int .i64 a, .int .i64 b] 23)).alloc (.cells #[.int .i64 c, .int .i64 d] 23)) (w1 := _) (b := w.heap.size + 1 + 1) (T := 23) (a0 := .int .i64 0) (a1 := .int .i64 0) (by simp) (hB := (by show Below _ _ w1; repeat (first | exact Below.refl _ _ | refine Below.alloc ?_ (by first | omega | (simp; done) | (simp; omega)) _ | refine Below.setCell ?_ (by first | omega | (simp; done) | (simp; omega)) _ | refine Below.drew ?_ | refine Below.trans ?_ (Below.mono (by assumption) (by first | omega | (simp; done) | (simp; omega))))))
            exact bodyPost_ret (v := .tuple #[sp 0 0, .bool false]) (by simp [results, Try.results20, go_sem, e0, e1]) rfl ⟨rfl, (by repeat (first | exact Below.refl _ _ | refine Below.alloc ?_ (by first | omega | (simp; done) | (simp; omega)) _ | refine Below.setCell ?_ (by first | omega | (simp; done) | (simp; omega)) _ | refine Below.drew ?_ | refine Below.trans ?_ (Below.mono (by assumption) (by first | omega | (simp; done) | (simp; omega)))))⟩
      | true =>
        obtain ⟨r1, r2, r3⟩ := meet_yes h1 h2 h3
        rw [r1, r2, r3]; clear r1 r2 r3
        by_cases q1 : a < c
        · skip
          by_cases q2 : d < b
          · skip
            have hm : max a c = c := by omega
            have hn : min b d = d := by omega
            rw [hm, hn] at h3 ⊢
            clear hm hn
            go_enter Try.func20, Try.ntmps20
            go_wp2_with (first | (go_at_call 15; (with_reducible refine (may_of _ _ _ _ h1).mono ?_); rintro e w1 ⟨rfl, hb⟩; obtain ⟨hc, hf⟩ := bcell hb; have hz := hb.size; (try simp at hz); have z0 : w.heap.size < w1.heap.size := (by omega); have z1 : w.heap.size + 1 < w1.heap.size := (by omega); have z2 : w.heap.size + 1 + 1 < w1.heap.size := (by omega)) | (go_at_call 15; (with_reducible refine (may_of _ _ _ _ h2).mono ?_); rintro e w1 ⟨rfl, hb⟩; obtain ⟨hc, hf⟩ := bcell hb; have hz := hb.size; (try simp at hz); have z0 : w.heap.size < w1.heap.size := (by omega); have z1 : w.heap.size + 1 < w1.heap.size := (by omega); have z2 : w.heap.size + 1 + 1 < w1.heap.size := (by omega)) | (go_at_call 36; (with_reducible refine (told_yes _ _ _ h3).mono ?_); rintro e w1 ⟨rfl, hb⟩; obtain ⟨hc, hf⟩ := bcell hb; have hz := hb.size; (try simp at hz); have z0 : w.heap.size < w1.heap.size := (by omega); have z1 : w.heap.size + 1 < w1.heap.size := (by omega); have z2 : w.heap.size + 1 + 1 < w1.heap.size := (by omega)))
            obtain ⟨e0, e1⟩ := ret_slot (W := (w.alloc (.cells #[.int .i64 a, .int .i64 b] 23)).alloc (.cells #[.int .i64 c, .int .i64 d] 23)) (w1 := _) (b := w.heap.size + 1 + 1) (T := 23) (a0 := .int .i64 0) (a1 := .int .i64 0) (by simp) (hB := (by show Below _ _ w1; repeat (first | exact Below.refl _ _ | refine Below.alloc ?_ (by first | omega | (simp; done) | (simp; omega)) _ | refine Below.setCell ?_ (by first | omega | (simp; done) | (simp; omega)) _ | refine Below.drew ?_ | refine Below.trans ?_ (Below.mono (by assumption) (by first | omega | (simp; done) | (simp; omega))))))
            exact bodyPost_ret (v := .tuple #[sp c d, .bool true]) (by simp [results, Try.results20, go_sem, e0, e1]) rfl ⟨rfl, (by repeat (first | exact Below.refl _ _ | refine Below.alloc ?_ (by first | omega | (simp; done) | (simp; omega)) _ | refine Below.setCell ?_ (by first | omega | (simp; done) | (simp; omega)) _ | refine Below.drew ?_ | refine Below.trans ?_ (Below.mono (by assumption) (by first | omega | (simp; done) | (simp; omega)))))⟩
          · skip
            have hm : max a c = c := by omega
            have hn : min b d = b := by omega
            rw [hm, hn] at h3 ⊢
            clear hm hn
            go_enter Try.func20, Try.ntmps20
            go_wp2_with (first | (go_at_call 15; (with_reducible refine (may_of _ _ _ _ h1).mono ?_); rintro e w1 ⟨rfl, hb⟩; obtain ⟨hc, hf⟩ := bcell hb; have hz := hb.size; (try simp at hz); have z0 : w.heap.size < w1.heap.size := (by omega); have z1 : w.heap.size + 1 < w1.heap.size := (by omega); have z2 : w.heap.size + 1 + 1 < w1.heap.size := (by omega)) | (go_at_call 15; (with_reducible refine (may_of _ _ _ _ h2).mono ?_); rintro e w1 ⟨rfl, hb⟩; obtain ⟨hc, hf⟩ := bcell hb; have hz := hb.size; (try simp at hz); have z0 : w.heap.size < w1.heap.size := (by omega); have z1 : w.heap.size + 1 < w1.heap.size := (by omega); have z2 : w.heap.size + 1 + 1 < w1.heap.size := (by omega)) | (go_at_call 36; (with_reducible refine (told_yes _ _ _ h3).mono ?_); rintro e w1 ⟨rfl, hb⟩; obtain ⟨hc, hf⟩ := bcell hb; have hz := hb.size; (try simp at hz); have z0 : w.heap.size < w1.heap.size := (by omega); have z1 : w.heap.size + 1 < w1.heap.size := (by omega); have z2 : w.heap.size + 1 + 1 < w1.heap.size := (by omega)))
            obtain ⟨e0, e1⟩ := ret_slot (W := (w.alloc (.cells #[.int .i64 a, .int .i64 b] 23)).alloc (.cells #[.int .i64 c, .int .i64 d] 23)) (w1 := _) (b := w.heap.size + 1 + 1) (T := 23) (a0 := .int .i64 0) (a1 := .int .i64 0) (by simp) (hB := (by show Below _ _ w1; repeat (first | exact Below.refl _ _ | refine Below.alloc ?_ (by first | omega | (simp; done) | (simp; omega)) _ | refine Below.setCell ?_ (by first | omega | (simp; done) | (simp; omega)) _ | refine Below.drew ?_ | refine Below.trans ?_ (Below.mono (by assumption) (by first | omega | (simp; done) | (simp; omega))))))
            exact bodyPost_ret (v := .tuple #[sp c b, .bool true]) (by simp [results, Try.results20, go_sem, e0, e1]) rfl ⟨rfl, (by repeat (first | exact Below.refl _ _ | refine Below.alloc ?_ (by first | omega | (simp; done) | (simp; omega)) _ | refine Below.setCell ?_ (by first | omega | (simp; done) | (simp; omega)) _ | refine Below.drew ?_ | refine Below.trans ?_ (Below.mono (by assumption) (by first | omega | (simp; done) | (simp; omega)))))⟩
        · skip
          by_cases q2 : d < b
          · skip
            have hm : max a c = a := by omega
            have hn : min b d = d := by omega
            rw [hm, hn] at h3 ⊢
            clear hm hn
            go_enter Try.func20, Try.ntmps20
            go_wp2_with (first | (go_at_call 15; (with_reducible refine (may_of _ _ _ _ h1).mono ?_); rintro e w1 ⟨rfl, hb⟩; obtain ⟨hc, hf⟩ := bcell hb; have hz := hb.size; (try simp at hz); have z0 : w.heap.size < w1.heap.size := (by omega); have z1 : w.heap.size + 1 < w1.heap.size := (by omega); have z2 : w.heap.size + 1 + 1 < w1.heap.size := (by omega)) | (go_at_call 15; (with_reducible refine (may_of _ _ _ _ h2).mono ?_); rintro e w1 ⟨rfl, hb⟩; obtain ⟨hc, hf⟩ := bcell hb; have hz := hb.size; (try simp at hz); have z0 : w.heap.size < w1.heap.size := (by omega); have z1 : w.heap.size + 1 < w1.heap.size := (by omega); have z2 : w.heap.size + 1 + 1 < w1.heap.size := (by omega)) | (go_at_call 36; (with_reducible refine (told_yes _ _ _ h3).mono ?_); rintro e w1 ⟨rfl, hb⟩; obtain ⟨hc, hf⟩ := bcell hb; have hz := hb.size; (try simp at hz); have z0 : w.heap.size < w1.heap.size := (by omega); have z1 : w.heap.size + 1 < w1.heap.size := (by omega); have z2 : w.heap.size + 1 + 1 < w1.heap.size := (by omega)))
            obtain ⟨e0, e1⟩ := ret_slot (W := (w.alloc (.cells #[.int .i64 a, .int .i64 b] 23)).alloc (.cells #[.int .i64 c, .int .i64 d] 23)) (w1 := _) (b := w.heap.size + 1 + 1) (T := 23) (a0 := .int .i64 0) (a1 := .int .i64 0) (by simp) (hB := (by show Below _ _ w1; repeat (first | exact Below.refl _ _ | refine Below.alloc ?_ (by first | omega | (simp; done) | (simp; omega)) _ | refine Below.setCell ?_ (by first | omega | (simp; done) | (simp; omega)) _ | refine Below.drew ?_ | refine Below.trans ?_ (Below.mono (by assumption) (by first | omega | (simp; done) | (simp; omega))))))
            exact bodyPost_ret (v := .tuple #[sp a d, .bool true]) (by simp [results, Try.results20, go_sem, e0, e1]) rfl ⟨rfl, (by repeat (first | exact Below.refl _ _ | refine Below.alloc ?_ (by first | omega | (simp; done) | (simp; omega)) _ | refine Below.setCell ?_ (by first | omega | (simp; done) | (simp; omega)) _ | refine Below.drew ?_ | refine Below.trans ?_ (Below.mono (by assumption) (by first | omega | (simp; done) | (simp; omega)))))⟩
          · skip
            have hm : max a c = a := by omega
            have hn : min b d = b := by omega
            rw [hm, hn] at h3 ⊢
            clear hm hn
            go_enter Try.func20, Try.ntmps20
            go_wp2_with (first | (go_at_call 15; (with_reducible refine (may_of _ _ _ _ h1).mono ?_); rintro e w1 ⟨rfl, hb⟩; obtain ⟨hc, hf⟩ := bcell hb; have hz := hb.size; (try simp at hz); have z0 : w.heap.size < w1.heap.size := (by omega); have z1 : w.heap.size + 1 < w1.heap.size := (by omega); have z2 : w.heap.size + 1 + 1 < w1.heap.size := (by omega)) | (go_at_call 15; (with_reducible refine (may_of _ _ _ _ h2).mono ?_); rintro e w1 ⟨rfl, hb⟩; obtain ⟨hc, hf⟩ := bcell hb; have hz := hb.size; (try simp at hz); have z0 : w.heap.size < w1.heap.size := (by omega); have z1 : w.heap.size + 1 < w1.heap.size := (by omega); have z2 : w.heap.size + 1 + 1 < w1.heap.size := (by omega)) | (go_at_call 36; (with_reducible refine (told_yes _ _ _ h3).mono ?_); rintro e w1 ⟨rfl, hb⟩; obtain ⟨hc, hf⟩ := bcell hb; have hz := hb.size; (try simp at hz); have z0 : w.heap.size < w1.heap.size := (by omega); have z1 : w.heap.size + 1 < w1.heap.size := (by omega); have z2 : w.heap.size + 1 + 1 < w1.heap.size := (by omega)))
            obtain ⟨e0, e1⟩ := ret_slot (W := (w.alloc (.cells #[.int .i64 a, .int .i64 b] 23)).alloc (.cells #[.int .i64 c, .int .i64 d] 23)) (w1 := _) (b := w.heap.size + 1 + 1) (T := 23) (a0 := .int .i64 0) (a1 := .int .i64 0) (by simp) (hB := (by show Below _ _ w1; repeat (first | exact Below.refl _ _ | refine Below.alloc ?_ (by first | omega | (simp; done) | (simp; omega)) _ | refine Below.setCell ?_ (by first | omega | (simp; done) | (simp; omega)) _ | refine Below.drew ?_ | refine Below.trans ?_ (Below.mono (by assumption) (by first | omega | (simp; done) | (simp; omega))))))
            exact bodyPost_ret (v := .tuple #[sp a b, .bool true]) (by simp [results, Try.results20, go_sem, e0, e1]) rfl ⟨rfl, (by repeat (first | exact Below.refl _ _ | refine Below.alloc ?_ (by first | omega | (simp; done) | (simp; omega)) _ | refine Below.setCell ?_ (by first | omega | (simp; done) | (simp; omega)) _ | refine Below.drew ?_ | refine Below.trans ?_ (Below.mono (by assumption) (by first | omega | (simp; done) | (simp; omega)))))⟩

set_option maxHeartbeats 1000000 in
theorem rmeet_any (w : World) (a b c d : Int) : Calls Try.prog 21 #[sp a b, sp c d] w (PV (.tuple #[sp (mtF a b c d) (mtT a b c d), .bool (meetB a b c d)]) w) := by
  by_cases q1 : a < c
  · skip
    by_cases q2 : d < b
    · skip
      cases h1 : mayB a b with
      | false =>
        obtain ⟨r1, r2, r3⟩ := meet_no1 (c := c) (d := d) h1
        rw [r1, r2, r3]; clear r1 r2 r3
        go_enter Try.func21, Try.ntmps21
        go_wp2_with (go_at_call 32; (with_reducible refine (rmay_of _ _ _ _ h1).mono ?_); rintro e w1 ⟨rfl, hb⟩; obtain ⟨hc, hf⟩ := bcell hb; have hz := hb.size; (try simp at hz); have z0 : w.heap.size < w1.heap.size := (by omega); have z1 : w.heap.size + 1 < w1.heap.size := (by omega); have z2 : w.heap.size + 1 + 1 < w1.heap.size := (by omega); have z3 : w.heap.size + 1 + 1 + 1 < w1.heap.size := (by omega))
        obtain ⟨e0, e1⟩ := ret_slot (W := (w.alloc (.cells #[.int .i64 a, .int .i64 b] 23)).alloc (.cells #[.int .i64 c, .int .i64 d] 23)) (w1 := _) (b := w.heap.size + 1 + 1) (T := 23) (a0 := .int .i64 0) (a1 := .int .i64 0) (by simp) (hB := (by show Below _ _ w1; repeat (first | exact Below.refl _ _ | refine Below.alloc ?_ (by first | omega | (simp; done) | (simp; omega)) _ | refine Below.setCell ?_ (by first | omega | (simp; done) | (simp; omega)) _ | refine Below.drew ?_ | refine Below.trans ?_ (Below.mono (by assumption) (by first | omega | (simp; done) | (simp; omega))))))
        exact bodyPost_ret (v := .tuple #[sp 0 0, .bool false]) (by simp [results, Try.results21, go_sem, e0, e1]) rfl ⟨rfl, (by repeat (first | exact Below.refl _ _ | refine Below.alloc ?_ (by first | omega | (simp; done) | (simp; omega)) _ | refine Below.setCell ?_ (by first | omega | (simp; done) | (simp; omega)) _ | refine Below.drew ?_ | refine Below.trans ?_ (Below.mono (by assumption) (by first | omega | (simp; done) | (simp; omega)))))⟩
      | true =>
        cases h2 : mayB c d with
        | false =>
          obtain ⟨r1, r2, r3⟩ := meet_no2 (a := a) (b := b) h2
          rw [r1, r2, r3]; clear r1 r2 r3
          go_enter Try.func21, Try.ntmps21
          go_wp2_with (first | (go_at_call 32; (with_reducible refine (rmay_of _ _ _ _ h1).mono ?_); rintro e w1 ⟨rfl, hb⟩; obtain ⟨hc, hf⟩ := bcell hb; have hz := hb.size; (try simp at hz); have z0 : w.heap.size < w1.heap.size := (by omega); have z1 : w.heap.size + 1 < w1.heap.size := (by omega); have z2 : w.heap.size + 1 + 1 < w1.heap.size := (by omega); have z3 : w.heap.size + 1 + 1 + 1 < w1.heap.size := (by omega)) | (go_at_call 32; (with_reducible refine (rmay_of _ _ _ _ h2).mono ?_); rintro e w1 ⟨rfl, hb⟩; obtain ⟨hc, hf⟩ := bcell hb; have hz := hb.size; (try simp at hz); have z0 : w.heap.size < w1.heap.size := (by omega); have z1 : w.heap.size + 1 < w1.heap.size := (by omega); have z2 : w.heap.size + 1 + 1 < w1.heap.size := (by omega); have z3 : w.heap.size + 1 + 1 + 1 < w1.heap.size := (by omega)))
          obtain ⟨e0, e1⟩ := ret_slot (W := (w.alloc (.cells #[.int .i64 a, .int .i64 b] 23)).alloc (.cells #[.int .i64 c, .int .i64 d] 23)) (w1 := _) (b := w.heap.size + 1 + 1) (T := 23) (a0 := .int .i64 0) (a1 := .int .i64 0) (by simp) (hB := (by show Below _ _ w1; repeat (first | exact Below.refl _ _ | refine Below.alloc ?_ (by first | omega | (simp; done) | (simp; omega)) _ | refine Below.setCell ?_ (by first | omega | (simp; done) | (simp; omega)) _ | refine Below.drew ?_ | refine Below.trans ?_ (Below.mono (by assumption) (by first | omega | (simp; done) | (simp; omega))))))
          exact bodyPost_ret (v := .tuple #[sp 0 0, .bool false]) (by simp [results, Try.results21, go_sem, e0, e1]) rfl ⟨rfl, (by repeat (first | exact Below.refl _ _ | refine Below.alloc ?_ (by first | omega | (simp; done) | (simp; omega)) _ | refine Below.setCell ?_ (by first | omega | (simp; done) | (simp; omega)) _ | refine Below.drew ?_ | refine Below.trans ?_ (Below.mono (by assumption) (by first | omega | (simp; done) | (simp; omega)))))⟩
        | true =>
          have k1 := may_iff.1 h1
          have k2 := may_iff.1 h2
          have hm : max a c = c := by omega
          have hn : min b d = d := by omega
          cases h3 : mayB (max a c) (min b d) with
          | false =>
            obtain ⟨r1, r2, r3⟩ := meet_no3 h1 h2 h3
            rw [r1, r2, r3]; clear r1 r2 r3
            have h4 : d ≤ c := by rw [hm, hn, may_no] at h3; omega
            clear hm hn k1 k2
            go_enter Try.func21, Try.ntmps21
            go_wp2_with (first | (go_at_call 32; (with_reducible refine (rmay_of _ _ _ _ h1).mono ?_); rintro e w1 ⟨rfl, hb⟩; obtain ⟨hc, hf⟩ := bcell hb; have hz := hb.size; (try simp at hz); have z0 : w.heap.size < w1.heap.size := (by omega); have z1 : w.heap.size + 1 < w1.heap.size := (by omega); have z2 : w.heap.size + 1 + 1 < w1.heap.size := (by omega); have z3 : w.heap.size + 1 + 1 + 1 < w1.heap.size := (by omega)) | (go_at_call 32; (with_reducible refine (rmay_of _ _ _ _ h2).mono ?_); rintro e w1 ⟨rfl, hb⟩; obtain ⟨hc, hf⟩ := bcell hb; have hz := hb.size; (try simp at hz); have z0 : w.heap.size < w1.heap.size := (by omega); have z1 : w.heap.size + 1 < w1.heap.size := (by omega); have z2 : w.heap.size + 1 + 1 < w1.heap.size := (by omega); have z3 : w.heap.size + 1 + 1 + 1 < w1.heap.size := (by omega)))
            obtain ⟨e0, e1⟩ := ret_slot (W := (w.alloc (.cells #[.int .i64 a, .int .i64 b] 23)).alloc (.cells #[.int .i64 c, .int .i64 d] 23)) (w1 := _) (b := w.heap.size + 1 + 1) (T := 23) (a0 := .int .i64 0) (a1 := .int .i64 0) (by simp) (hB := (by show Below _ _ w1; repeat (first | exact Below.refl _ _ | refine Below.alloc ?_ (by first | omega | (simp; done) | (simp; omega)) _ | refine Below.setCell ?_ (by first | omega | (simp; done) | (simp; omega)) _ | refine Below.drew ?_ | refine Below.trans ?_ (Below.mono (by assumption) (by first | omega | (simp; done) | (simp; omega))))))
            exact bodyPost_ret (v := .tuple #[sp 0 0, .bool false]) (by simp [results, Try.results21, go_sem, e0, e1]) rfl ⟨rfl, (by repeat (first | exact Below.refl _ _ | refine Below.alloc ?_ (by first | omega | (simp; done) | (simp; omega)) _ | refine Below.setCell ?_ (by first | omega | (simp; done) | (simp; omega)) _ | refine Below.drew ?_ | refine Below.trans ?_ (Below.mono (by assumption) (by first | omega | (simp; done) | (simp; omega)))))⟩
          | true =>
            obtain ⟨r1, r2, r3⟩ := meet_yes h1 h2 h3
            rw [r1, r2, r3, hm, hn]; clear r1 r2 r3
            have h4 : ¬ d ≤ c := by rw [hm, hn, may_iff] at h3; omega
            have h5 : decide (d ≤ c) = false := by simpa using h4
            clear hm hn k1 k2
            go_enter Try.func21, Try.ntmps21
            go_wp2_with (first | (go_at_call 32; (with_reducible refine (rmay_of _ _ _ _ h1).mono ?_); rintro e w1 ⟨rfl, hb⟩; obtain ⟨hc, hf⟩ := bcell hb; have hz := hb.size; (try simp at hz); have z0 : w.heap.size < w1.heap.size := (by omega); have z1 : w.heap.size + 1 < w1.heap.size := (by omega); have z2 : w.heap.size + 1 + 1 < w1.heap.size := (by omega); have z3 : w.heap.size + 1 + 1 + 1 < w1.heap.size := (by omega)) | (go_at_call 32; (with_reducible refine (rmay_of _ _ _ _ h2).mono ?_); rintro e w1 ⟨rfl, hb⟩; obtain ⟨hc, hf⟩ := bcell hb; have hz := hb.size; (try simp at hz); have z0 : w.heap.size < w1.heap.size := (by omega); have z1 : w.heap.size + 1 < w1.heap.size := (by omega); have z2 : w.heap.size + 1 + 1 < w1.heap.size := (by omega); have z3 : w.heap.size + 1 + 1 + 1 < w1.heap.size := (by omega)))
            obtain ⟨e0, e1⟩ := ret_slot (W := (w.alloc (.cells #[.int .i64 a, .int .i64 b] 23)).alloc (.cells #[.int .i64 c, .int .i64 d] 23)) (w1 := _) (b := w.heap.size + 1 + 1) (T := 23) (a0 := .int .i64 0) (a1 := .int .i64 0) (by simp) (hB := (by show Below _ _ w1; repeat (first | exact Below.refl _ _ | refine Below.alloc ?_ (by first | omega | (simp; done) | (simp; omega)) _ | refine Below.setCell ?_ (by first | omega | (simp; done) | (simp; omega)) _ | refine Below.drew ?_ | refine Below.trans ?_ (Below.mono (by assumption) (by first | omega | (simp; done) | (simp; omega))))))
            exact bodyPost_ret (v := .tuple #[sp c d, .bool true]) (by simp [results, Try.results21, go_sem, e0, e1]) rfl ⟨rfl, (by repeat (first | exact Below.refl _ _ | refine Below.alloc ?_ (by first | omega | (simp; done) | (simp; omega)) _ | refine Below.setCell ?_ (by first | omega | (simp; done) | (simp; omega)) _ | refine Below.drew ?_ | refine Below.trans ?_ (Below.mono (by assumption) (by first | omega | (simp; done) | (simp; omega)))))⟩
    · skip
      cases h1 : mayB a b with
      | false =>
        obtain ⟨r1, r2, r3⟩ := meet_no1 (c := c) (d := d) h1
        rw [r1, r2, r3]; clear r1 r2 r3
        go_enter Try.func21, Try.ntmps21
        go_wp2_with (go_at_call 32; (with_reducible refine (rmay_of _ _ _ _ h1).mono ?_); rintro e w1 ⟨rfl, hb⟩; obtain ⟨hc, hf⟩ := bcell hb; have hz := hb.size; (try simp at hz); have z0 : w.heap.size < w1.heap.size := (by omega); have z1 : w.heap.size + 1 < w1.heap.size := (by omega); have z2 : w.heap.size + 1 + 1 < w1.heap.size := (by omega); have z3 : w.heap.size + 1 + 1 + 1 < w1.heap.size := (by omega))
        obtain ⟨e0, e1⟩ := ret_slot (W := (w.alloc (.cells #[.int .i64 a, .int .i64 b] 23)).alloc (.cells #[.int .i64 c, .int .i64 d] 23)) (w1 := _) (b := w.heap.size + 1 + 1) (T := 23) (a0 := .int .i64 0) (a1 := .int .i64 0) (by simp) (hB := (by show Below _ _ w1; repeat (first | exact Below.refl _ _ | refine Below.alloc ?_ (by first | omega | (simp; done) | (simp; omega)) _ | refine Below.setCell ?_ (by first | omega | (simp; done) | (simp; omega)) _ | refine Below.drew ?_ | refine Below.trans ?_ (Below.mono (by assumption) (by first | omega | (simp; done) | (simp; omega))))))
        exact bodyPost_ret (v := .tuple #[sp 0 0, .bool false]) (by simp [results, Try.results21, go_sem, e0, e1]) rfl ⟨rfl, (by repeat (first | exact Below.refl _ _ | refine Below.alloc ?_ (by first | omega | (simp; done) | (simp; omega)) _ | refine Below.setCell ?_ (by first | omega | (simp; done) | (simp; omega)) _ | refine Below.drew ?_ | refine Below.trans ?_ (Below.mono (by assumption) (by first | omega | (simp; done) | (simp; omega)))))⟩
      | true =>
        cases h2 : mayB c d with
        | false =>
          obtain ⟨r1, r2, r3⟩ := meet_no2 (a := a) (b := b) h2
          rw [r1, r2, r3]; clear r1 r2 r3
          go_enter Try.func21, Try.ntmps21
          go_wp2_with (first | (go_at_call 32; (with_reducible refine (rmay_of _ _ _ _ h1).mono ?_); rintro e w1 ⟨rfl, hb⟩; obtain ⟨hc, hf⟩ := bcell hb; have hz := hb.size; (try simp at hz); have z0 : w.heap.size < w1.heap.size := (by omega); have z1 : w.heap.size + 1 < w1.heap.size := (by omega); have z2 : w.heap.size + 1 + 1 < w1.heap.size := (by omega); have z3 : w.heap.size + 1 + 1 + 1 < w1.heap.size := (by omega)) | (go_at_call 32; (with_reducible refine (rmay_of _ _ _ _ h2).mono ?_); rintro e w1 ⟨rfl, hb⟩; obtain ⟨hc, hf⟩ := bcell hb; have hz := hb.size; (try simp at hz); have z0 : w.heap.size < w1.heap.size := (by omega); have z1 : w.heap.size + 1 < w1.heap.size := (by omega); have z2 : w.heap.size + 1 + 1 < w1.heap.size := (by omega); have z3 : w.heap.size + 1 + 1 + 1 < w1.heap.size := (by omega)))
          obtain ⟨e0, e1⟩ := ret_slot (W := (w.alloc (.cells #[.int .i64 a, .int .i64 b] 23)).alloc (.cells #[.int .i64 c, .int .i64 d] 23)) (w1 := _) (b := w.heap.size + 1 + 1) (T := 23) (a0 := .int .i64 0) (a1 := .int .i64 0) (by simp) (hB := (by show Below _ _ w1; repeat (first | exact Below.refl _ _ | refine Below.alloc ?_ (by first | omega | (simp; done) | (simp; omega)) _ | refine Below.setCell ?_ (by first | omega | (simp; done) | (simp; omega)) _ | refine Below.drew ?_ | refine Below.trans ?_ (Below.mono (by assumption) (by first | omega | (simp; done) | (simp; omega))))))
          exact bodyPost_ret (v := .tuple #[sp 0 0, .bool false]) (by simp [results, Try.results21, go_sem, e0, e1]) rfl ⟨rfl, (by repeat (first | exact Below.refl _ _ | refine Below.alloc ?_ (by first | omega | (simp; done) | (simp; omega)) _ | refine Below.setCell ?_ (by first | omega | (simp; done) | (simp; omega)) _ | refine Below.drew ?_ | refine Below.trans ?_ (Below.mono (by assumption) (by first | omega | (simp; done) | (simp; omega)))))⟩
        | true =>
          have k1 := may_iff.1 h1
          have k2 := may_iff.1 h2
          have hm : max a c = c := by omega
          have hn : min b d = b := by omega
          cases h3 : mayB (max a c) (min b d) with
          | false =>
            obtain ⟨r1, r2, r3⟩ := meet_no3 h1 h2 h3
            rw [r1, r2, r3]; clear r1 r2 r3
            have h4 : b ≤ c := by rw [hm, hn, may_no] at h3; omega
            clear hm hn k1 k2
            go_enter Try.func21, Try.ntmps21
            go_wp2_with (first | (go_at_call 32; (with_reducible refine (rmay_of _ _ _ _ h1).mono ?_); rintro e w1 ⟨rfl, hb⟩; obtain ⟨hc, hf⟩ := bcell hb; have hz := hb.size; (try simp at hz); have z0 : w.heap.size < w1.heap.size := (by omega); have z1 : w.heap.size + 1 < w1.heap.size := (by omega); have z2 : w.heap.size + 1 + 1 < w1.heap.size := (by omega); have z3 : w.heap.size + 1 + 1 + 1 < w1.heap.size := (by omega)) | (go_at_call 32; (with_reducible refine (rmay_of _ _ _ _ h2).mono ?_); rintro e w1 ⟨rfl, hb⟩; obtain ⟨hc, hf⟩ := bcell hb; have hz := hb.size; (try simp at hz); have z0 : w.heap.size < w1.heap.size := (by omega); have z1 : w.heap.size + 1 < w1.heap.size := (by omega); have z2 : w.heap.size + 1 + 1 < w1.heap.size := (by omega); have z3 : w.heap.size + 1 + 1 + 1 < w1.heap.size := (by omega)))
            obtain ⟨e0, e1⟩ := ret_slot (W := (w.alloc (.cells #[.int .i64 a, .int .i64 b] 23)).alloc (.cells #[.int .i64 c, .int .i64 d] 23)) (w1 := _) (b := w.heap.size + 1 + 1) (T := 23) (a0 := .int .i64 0) (a1 := .int .i64 0) (by simp) (hB := (by show Below _ _ w1; repeat (first | exact Below.refl _ _ | refine Below.alloc ?_ (by first | omega | (simp; done) | (simp; omega)) _ | refine Below.setCell ?_ (by first | omega | (simp; done) | (simp; omega)) _ | refine Below.drew ?_ | refine Below.trans ?_ (Below.mono (by assumption) (by first | omega | (simp; done) | (simp; omega))))))
            exact bodyPost_ret (v := .tuple #[sp 0 0, .bool false]) (by simp [results, Try.results21, go_sem, e0, e1]) rfl ⟨rfl, (by repeat (first | exact Below.refl _ _ | refine Below.alloc ?_ (by first | omega | (simp; done) | (simp; omega)) _ | refine Below.setCell ?_ (by first | omega | (simp; done) | (simp; omega)) _ | refine Below.drew ?_ | refine Below.trans ?_ (Below.mono (by assumption) (by first | omega | (simp; done) | (simp; omega)))))⟩
          | true =>
            obtain ⟨r1, r2, r3⟩ := meet_yes h1 h2 h3
            rw [r1, r2, r3, hm, hn]; clear r1 r2 r3
            have h4 : ¬ b ≤ c := by rw [hm, hn, may_iff] at h3; omega
            have h5 : decide (b ≤ c) = false := by simpa using h4
            clear hm hn k1 k2
            go_enter Try.func21, Try.ntmps21
            go_wp2_with (first | (go_at_call 32; (with_reducible refine (rmay_of _ _ _ _ h1).mono ?_); rintro e w1 ⟨rfl, hb⟩; obtain ⟨hc, hf⟩ := bcell hb; have hz := hb.size; (try simp at hz); have z0 : w.heap.size < w1.heap.size := (by omega); have z1 : w.heap.size + 1 < w1.heap.size := (by omega); have z2 : w.heap.size + 1 + 1 < w1.heap.size := (by omega); have z3 : w.heap.size + 1 + 1 + 1 < w1.heap.size := (by omega)) | (go_at_call 32; (with_reducible refine (rmay_of _ _ _ _ h2).mono ?_); rintro e w1 ⟨rfl, hb⟩; obtain ⟨hc, hf⟩ := bcell hb; have hz := hb.size; (try simp at hz); have z0 : w.heap.size < w1.heap.size := (by omega); have z1 : w.heap.size + 1 < w1.heap.size := (by omega); have z2 : w.heap.size + 1 + 1 < w1.heap.size := (by omega); have z3 : w.heap.size + 1 + 1 + 1 < w1.heap.size := (by omega)))
            obtain ⟨e0, e1⟩ := ret_slot (W := (w.alloc (.cells #[.int .i64 a, .int .i64 b] 23)).alloc (.cells #[.int .i64 c, .int .i64 d] 23)) (w1 := _) (b := w.heap.size + 1 + 1) (T := 23) (a0 := .int .i64 0) (a1 := .int .i64 0) (by simp) (hB := (by show Below _ _ w1; repeat (first | exact Below.refl _ _ | refine Below.alloc ?_ (by first | omega | (simp; done) | (simp; omega)) _ | refine Below.setCell ?_ (by first | omega | (simp; done) | (simp; omega)) _ | refine Below.drew ?_ | refine Below.trans ?_ (Below.mono (by assumption) (by first | omega | (simp; done) | (simp; omega))))))
            exact bodyPost_ret (v := .tuple #[sp c b, .bool true]) (by simp [results, Try.results21, go_sem, e0, e1]) rfl ⟨rfl, (by repeat (first | exact Below.refl _ _ | refine Below.alloc ?_ (by first | omega | (simp; done) | (simp; omega)) _ | refine Below.setCell ?_ (by first | omega | (simp; done) | (simp; omega)) _ | refine Below.drew ?_ | refine Below.trans ?_ (Below.mono (by assumption) (by first | omega | (simp; done) | (simp; omega)))))⟩
  · skip
    by_cases q2 : d < b
    · skip
      cases h1 : mayB a b with
      | false =>
        obtain ⟨r1, r2, r3⟩ := meet_no1 (c := c) (d := d) h1
        rw [r1, r2, r3]; clear r1 r2 r3
        go_enter Try.func21, Try.ntmps21
        go_wp2_with (go_at_call 32; (with_reducible refine (rmay_of _ _ _ _ h1).mono ?_); rintro e w1 ⟨rfl, hb⟩; obtain ⟨hc, hf⟩ := bcell hb; have hz := hb.size; (try simp at hz); have z0 : w.heap.size < w1.heap.size := (by omega); have z1 : w.heap.size + 1 < w1.heap.size := (by omega); have z2 : w.heap.size + 1 + 1 < w1.heap.size := (by omega); have z3 : w.heap.size + 1 + 1 + 1 < w1.heap.size := (by omega))
        obtain ⟨e0, e1⟩ := ret_slot (W := (w.alloc (.cells #[.int .i64 a, .int .i64 b] 23)).alloc (.cells #[.int .i64 c, .int .i64 d] 23)) (w1 := _) (b := w.heap.size + 1 + 1) (T := 23) (a0 := .int .i64 0) (a1 := .int .i64 0) (by simp) (hB := (by show Below _ _ w1; repeat (first | exact Below.refl _ _ | refine Below.alloc ?_ (by first | omega | (simp; done) | (simp; omega)) _ | refine Below.setCell ?_ (by first | omega | (simp; done) | (simp; omega)) _ | refine Below.drew ?_ | refine Below.trans ?_ (Below.mono (by assumption) (by first | omega | (simp; done) | (simp; omega))))))
        exact bodyPost_ret (v := .tuple #[sp 0 0, .bool false]) (by simp [results, Try.results21, go_sem, e0, e1]) rfl ⟨rfl, (by repeat (first | exact Below.refl _ _ | refine Below.alloc ?_ (by first | omega | (simp; done) | (simp; omega)) _ | refine Below.setCell ?_ (by first | omega | (simp; done) | (simp; omega)) _ | refine Below.drew ?_ | refine Below.trans ?_ (Below.mono (by assumption) (by first | omega | (simp; done) | (simp; omega)))))⟩
      | true =>
        cases h2 : mayB c d with
        | false =>
          obtain ⟨r1, r2, r3⟩ := meet_no2 (a := a) (b := b) h2
          rw [r1, r2, r3]; clear r1 r2 r3
          go_enter Try.func21, Try.ntmps21
          go_wp2_with (first | (go_at_call 32; (with_reducible refine (rmay_of _ _ _ _ h1).mono ?_); rintro e w1 ⟨rfl, hb⟩; obtain ⟨hc, hf⟩ := bcell hb; have hz := hb.size; (try simp at hz); have z0 : w.heap.size < w1.heap.size := (by omega); have z1 : w.heap.size + 1 < w1.heap.size := (by omega); have z2 : w.heap.size + 1 + 1 < w1.heap.size := (by omega); have z3 : w.heap.size + 1 + 1 + 1 < w1.heap.size := (by omega)) | (go_at_call 32; (with_reducible refine (rmay_of _ _ _ _ h2).mono ?_); rintro e w1 ⟨rfl, hb⟩; obtain ⟨hc, hf⟩ := bcell hb; have hz := hb.size; (try simp at hz); have z0 : w.heap.size < w1.heap.size := (by omega); have z1 : w.heap.size + 1 < w1.heap.size := (by omega); have z2 : w.heap.size + 1 + 1 < w1.heap.size := (by omega); have z3 : w.heap.size + 1 + 1 + 1 < w1.heap.size := (by omega)))
          obtain ⟨e0, e1⟩ := ret_slot (W := (w.alloc (.cells #[.int .i64 a, .int .i64 b] 23)).alloc (.cells #[.int .i64 c, .int .i64 d] 23)) (w1 := _) (b := w.heap.size + 1 + 1) (T := 23) (a0 := .int .i64 0) (a1 := .int .i64 0) (by simp) (hB := (by show Below _ _ w1; repeat (first | exact Below.refl _ _ | refine Below.alloc ?_ (by first | omega | (simp; done) | (simp; omega)) _ | refine Below.setCell ?_ (by first | omega | (simp; done) | (simp; omega)) _ | refine Below.drew ?_ | refine Below.trans ?_ (Below.mono (by assumption) (by first | omega | (simp; done) | (simp; omega))))))
          exact bodyPost_ret (v := .tuple #[sp 0 0, .bool false]) (by simp [results, Try.results21, go_sem, e0, e1]) rfl ⟨rfl, (by repeat (first | exact Below.refl _ _ | refine Below.alloc ?_ (by first | omega | (simp; done) | (simp; omega)) _ | refine Below.setCell ?_ (by first | omega | (simp; done) | (simp; omega)) _ | refine Below.drew ?_ | refine Below.trans ?_ (Below.mono (by assumption) (by first | omega | (simp; done) | (simp; omega)))))⟩
        | true =>
          have k1 := may_iff.1 h1
          have k2 := may_iff.1 h2
          have hm : max a c = a := by omega
          have hn : min b d = d := by omega
          cases h3 : mayB (max a c) (min b d) with
          | false =>
            obtain ⟨r1, r2, r3⟩ := meet_no3 h1 h2 h3
            rw [r1, r2, r3]; clear r1 r2 r3
            have h4 : d ≤ a := by rw [hm, hn, may_no] at h3; omega
            clear hm hn k1 k2
            go_enter Try.func21, Try.ntmps21
            go_wp2_with (first | (go_at_call 32; (with_reducible refine (rmay_of _ _ _ _ h1).mono ?_); rintro e w1 ⟨rfl, hb⟩; obtain ⟨hc, hf⟩ := bcell hb; have hz := hb.size; (try simp at hz); have z0 : w.heap.size < w1.heap.size := (by omega); have z1 : w.heap.size + 1 < w1.heap.size := (by omega); have z2 : w.heap.size + 1 + 1 < w1.heap.size := (by omega); have z3 : w.heap.size + 1 + 1 + 1 < w1.heap.size := (by omega)) | (go_at_call 32; (with_reducible refine (rmay_of _ _ _ _ h2).mono ?_); rintro e w1 ⟨rfl, hb⟩; obtain ⟨hc, hf⟩ := bcell hb; have hz := hb.size; (try simp at hz); have z0 : w.heap.size < w1.heap.size := (by omega); have z1 : w.heap.size + 1 < w1.heap.size := (by omega); have z2 : w.heap.size + 1 + 1 < w1.heap.size := (by omega); have z3 : w.heap.size + 1 + 1 + 1 < w1.heap.size := (by omega)))
            obtain ⟨e0, e1⟩ := ret_slot (W := (w.alloc (.cells #[.int .i64 a, .int .i64 b] 23)).alloc (.cells #[.int .i64 c, .int .i64 d] 23)) (w1 := _) (b := w.heap.size + 1 + 1) (T := 23) (a0 := .int .i64 0) (a1 := .int .i64 0) (by simp) (hB := (by show Below _ _ w1; repeat (first | exact Below.refl _ _ | refine Below.alloc ?_ (by first | omega | (simp; done) | (simp; omega)) _ | refine Below.setCell ?_ (by first | omega | (simp; done) | (simp; omega)) _ | refine Below.drew ?_ | refine Below.trans ?_ (Below.mono (by assumption) (by first | omega | (simp; done) | (simp; omega))))))
            exact bodyPost_ret (v := .tuple #[sp 0 0, .bool false]) (by simp [results, Try.results21, go_sem, e0, e1]) rfl ⟨rfl, (by repeat (first | exact Below.refl _ _ | refine Below.alloc ?_ (by first | omega | (simp; done) | (simp; omega)) _ | refine Below.setCell ?_ (by first | omega | (simp; done) | (simp; omega)) _ | refine Below.drew ?_ | refine Below.trans ?_ (Below.mono (by assumption) (by first | omega | (simp; done) | (simp; omega)))))⟩
          | true =>
            obtain ⟨r1, r2, r3⟩ := meet_yes h1 h2 h3
            rw [r1, r2, r3, hm, hn]; clear r1 r2 r3
            have h4 : ¬ d ≤ a := by rw [hm, hn, may_iff] at h3; omega
            have h5 : decide (d ≤ a) = false := by simpa using h4
            clear hm hn k1 k2
            go_enter Try.func21, Try.ntmps21
            go_wp2_with (first | (go_at_call 32; (with_reducible refine (rmay_of _ _ _ _ h1).mono ?_); rintro e w1 ⟨rfl, hb⟩; obtain ⟨hc, hf⟩ := bcell hb; have hz := hb.size; (try simp at hz); have z0 : w.heap.size < w1.heap.size := (by omega); have z1 : w.heap.size + 1 < w1.heap.size := (by omega); have z2 : w.heap.size + 1 + 1 < w1.heap.size := (by omega); have z3 : w.heap.size + 1 + 1 + 1 < w1.heap.size := (by omega)) | (go_at_call 32; (with_reducible refine (rmay_of _ _ _ _ h2).mono ?_); rintro e w1 ⟨rfl, hb⟩; obtain ⟨hc, hf⟩ := bcell hb; have hz := hb.size; (try simp at hz); have z0 : w.heap.size < w1.heap.size := (by omega); have z1 : w.heap.size + 1 < w1.heap.size := (by omega); have z2 : w.heap.size + 1 + 1 < w1.heap.size := (by omega); have z3 : w.heap.size + 1 + 1 + 1 < w1.heap.size := (by omega)))
            obtain ⟨e0, e1⟩ := ret_slot (W := (w.alloc (.cells #[.int .i64 a, .int .i64 b] 23)).alloc (.cells #[.int .i64 c, .int .i64 d] 23)) (w1 := _) (b := w.heap.size + 1 + 1) (T := 23) (a0 := .int .i64 0) (a1 := .int .i64 0) (by simp) (hB := (by show Below _ _ w1; repeat (first | exact Below.refl _ _ | refine Below.alloc ?_ (by first | omega | (simp; done) | (simp; omega)) _ | refine Below.setCell ?_ (by first | omega | (simp; done) | (simp; omega)) _ | refine Below.drew ?_ | refine Below.trans ?_ (Below.mono (by assumption) (by first | omega | (simp; done) | (simp; omega))))))
            exact bodyPost_ret (v := .tuple #[sp a d, .bool true]) (by simp [results, Try.results21, go_sem, e0, e1]) rfl ⟨rfl, (by repeat (first | exact Below.refl _ _ | refine Below.alloc ?_ (by first | omega | (simp; done) | (simp; omega)) _ | refine Below.setCell ?_ (by first | omega | (simp; done) | (simp; omega)) _ | refine Below.drew ?_ | refine Below.trans ?_ (Below.mono (by assumption) (by first | omega | (simp; done) | (simp; omega)))))⟩
    · skip
      cases h1 : mayB a b with
      | false =>
        obtain ⟨r1, r2, r3⟩ := meet_no1 (c := c) (d := d) h1
        rw [r1, r2, r3]; clear r1 r2 r3
        go_enter Try.func21, Try.ntmps21
        go_wp2_with (go_at_call 32; (with_reducible refine (rmay_of _ _ _ _ h1).mono ?_); rintro e w1 ⟨rfl, hb⟩; obtain ⟨hc, hf⟩ := bcell hb; have hz := hb.size; (try simp at hz); have z0 : w.heap.size < w1.heap.size := (by omega); have z1 : w.heap.size + 1 < w1.heap.size := (by omega); have z2 : w.heap.size + 1 + 1 < w1.heap.size := (by omega); have z3 : w.heap.size + 1 + 1 + 1 < w1.heap.size := (by omega))
        obtain ⟨e0, e1⟩ := ret_slot (W := (w.alloc (.cells #[.int .i64 a, .int .i64 b] 23)).alloc (.cells #[.int .i64 c, .int .i64 d] 23)) (w1 := _) (b := w.heap.size + 1 + 1) (T := 23) (a0 := .int .i64 0) (a1 := .int .i64 0) (by simp) (hB := (by show Below _ _ w1; repeat (first | exact Below.refl _ _ | refine Below.alloc ?_ (by first | omega | (simp; done) | (simp; omega)) _ | refine Below.setCell ?_ (by first | omega | (simp; done) | (simp; omega)) _ | refine Below.drew ?_ | refine Below.trans ?_ (Below.mono (by assumption) (by first | omega | (simp; done) | (simp; omega))))))
        exact bodyPost_ret (v := .tuple #[sp 0 0, .bool false]) (by simp [results, Try.results21, go_sem, e0, e1]) rfl ⟨rfl, (by repeat (first | exact Below.refl _ _ | refine Below.alloc ?_ (by first | omega | (simp; done) | (simp; omega)) _ | refine Below.setCell ?_ (by first | omega | (simp; done) | (simp; omega)) _ | refine Below.drew ?_ | refine Below.trans ?_ (Below.mono (by assumption) (by first | omega | (simp; done) | (simp; omega)))))⟩
      | true =>
        cases h2 : mayB c d with
        | false =>
          obtain ⟨r1, r2, r3⟩ := meet_no2 (a := a) (b := b) h2
          rw [r1, r2, r3]; clear r1 r2 r3
          go_enter Try.func21, Try.ntmps21
          go_wp2_with (first | (go_at_call 32; (with_reducible refine (rmay_of _ _ _ _ h1).mono ?_); rintro e w1 ⟨rfl, hb⟩; obtain ⟨hc, hf⟩ := bcell hb; have hz := hb.size; (try simp at hz); have z0 : w.heap.size < w1.heap.size := (by omega); have z1 : w.heap.size + 1 < w1.heap.size := (by omega); have z2 : w.heap.size + 1 + 1 < w1.heap.size := (by omega); have z3 : w.heap.size + 1 + 1 + 1 < w1.heap.size := (by omega)) | (go_at_call 32; (with_reducible refine (rmay_of _ _ _ _ h2).mono ?_); rintro e w1 ⟨rfl, hb⟩; obtain ⟨hc, hf⟩ := bcell hb; have hz := hb.size; (try simp at hz); have z0 : w.heap.size < w1.heap.size := (by omega); have z1 : w.heap.size + 1 < w1.heap.size := (by omega); have z2 : w.heap.size + 1 + 1 < w1.heap.size := (by omega); have z3 : w.heap.size + 1 + 1 + 1 < w1.heap.size := (by omega)))
          obtain ⟨e0, e1⟩ := ret_slot (W := (w.alloc (.cells #[.int .i64 a, .int .i64 b] 23)).alloc (.cells #[.int .i64 c, .int .i64 d] 23)) (w1 := _) (b := w.heap.size + 1 + 1) (T := 23) (a0 := .int .i64 0) (a1 := .int .i64 0) (by simp) (hB := (by show Below _ _ w1; repeat (first | exact Below.refl _ _ | refine Below.alloc ?_ (by first | omega | (simp; done) | (simp; omega)) _ | refine Below.setCell ?_ (by first | omega | (simp; done) | (simp; omega)) _ | refine Below.drew ?_ | refine Below.trans ?_ (Below.mono (by assumption) (by first | omega | (simp; done) | (simp; omega))))))
          exact bodyPost_ret (v := .tuple #[sp 0 0, .bool false]) (by simp [results, Try.results21, go_sem, e0, e1]) rfl ⟨rfl, (by repeat (first | exact Below.refl _ _ | refine Below.alloc ?_ (by first | omega | (simp; done) | (simp; omega)) _ | refine Below.setCell ?_ (by first | omega | (simp; done) | (simp; omega)) _ | refine Below.drew ?_ | refine Below.trans ?_ (Below.mono (by assumption) (by first | omega | (simp; done) | (simp; omega)))))⟩
        | true =>
          have k1 := may_iff.1 h1
          have k2 := may_iff.1 h2
          have hm : max a c = a := by omega
          have hn : min b d = b := by omega
          cases h3 : mayB (max a c) (min b d) with
          | false =>
            obtain ⟨r1, r2, r3⟩ := meet_no3 h1 h2 h3
            rw [r1, r2, r3]; clear r1 r2 r3
            have h4 : b ≤ a := by rw [hm, hn, may_no] at h3; omega
            clear hm hn k1 k2
            go_enter Try.func21, Try.ntmps21
            go_wp2_with (first | (go_at_call 32; (with_reducible refine (rmay_of _ _ _ _ h1).mono ?_); rintro e w1 ⟨rfl, hb⟩; obtain ⟨hc, hf⟩ := bcell hb; have hz := hb.size; (try simp at hz); have z0 : w.heap.size < w1.heap.size := (by omega); have z1 : w.heap.size + 1 < w1.heap.size := (by omega); have z2 : w.heap.size + 1 + 1 < w1.heap.size := (by omega); have z3 : w.heap.size + 1 + 1 + 1 < w1.heap.size := (by omega)) | (go_at_call 32; (with_reducible refine (rmay_of _ _ _ _ h2).mono ?_); rintro e w1 ⟨rfl, hb⟩; obtain ⟨hc, hf⟩ := bcell hb; have hz := hb.size; (try simp at hz); have z0 : w.heap.size < w1.heap.size := (by omega); have z1 : w.heap.size + 1 < w1.heap.size := (by omega); have z2 : w.heap.size + 1 + 1 < w1.heap.size := (by omega); have z3 : w.heap.size + 1 + 1 + 1 < w1.heap.size := (by omega)))
            obtain ⟨e0, e1⟩ := ret_slot (W := (w.alloc (.cells #[.int .i64 a, .int .i64 b] 23)).alloc (.cells #[.int .i64 c, .int .i64 d] 23)) (w1 := _) (b := w.heap.size + 1 + 1) (T := 23) (a0 := .int .i64 0) (a1 := .int .i64 0) (by simp) (hB := (by show Below _ _ w1; repeat (first | exact Below.refl _ _ | refine Below.alloc ?_ (by first | omega | (simp; done) | (simp; omega)) _ | refine Below.setCell ?_ (by first | omega | (simp; done) | (simp; omega)) _ | refine Below.drew ?_ | refine Below.trans ?_ (Below.mono (by assumption) (by first | omega | (simp; done) | (simp; omega))))))
            exact bodyPost_ret (v := .tuple #[sp 0 0, .bool false]) (by simp [results, Try.results21, go_sem, e0, e1]) rfl ⟨rfl, (by repeat (first | exact Below.refl _ _ | refine Below.alloc ?_ (by first | omega | (simp; done) | (simp; omega)) _ | refine Below.setCell ?_ (by first | omega | (simp; done) | (simp; omega)) _ | refine Below.drew ?_ | refine Below.trans ?_ (Below.mono (by assumption) (by first | omega | (simp; done) | (simp; omega)))))⟩
          | true =>
            obtain ⟨r1, r2, r3⟩ := meet_yes h1 h2 h3
            rw [r1, r2, r3, hm, hn]; clear r1 r2 r3
            have h4 : ¬ b ≤ a := by rw [hm, hn, may_iff] at h3; omega
            have h5 : decide (b ≤ a) = false := by simpa using h4
            clear hm hn k1 k2
            go_enter Try.func21, Try.ntmps21
            go_wp2_with (first | (go_at_call 32; (with_reducible refine (rmay_of _ _ _ _ h1).mono ?_); rintro e w1 ⟨rfl, hb⟩; obtain ⟨hc, hf⟩ := bcell hb; have hz := hb.size; (try simp at hz); have z0 : w.heap.size < w1.heap.size := (by omega); have z1 : w.heap.size + 1 < w1.heap.size := (by omega); have z2 : w.heap.size + 1 + 1 < w1.heap.size := (by omega); have z3 : w.heap.size + 1 + 1 + 1 < w1.heap.size := (by omega)) | (go_at_call 32; (with_reducible refine (rmay_of _ _ _ _ h2).mono ?_); rintro e w1 ⟨rfl, hb⟩; obtain ⟨hc, hf⟩ := bcell hb; have hz := hb.size; (try simp at hz); have z0 : w.heap.size < w1.heap.size := (by omega); have z1 : w.heap.size + 1 < w1.heap.size := (by omega); have z2 : w.heap.size + 1 + 1 < w1.heap.size := (by omega); have z3 : w.heap.size + 1 + 1 + 1 < w1.heap.size := (by omega)))
            obtain ⟨e0, e1⟩ := ret_slot (W := (w.alloc (.cells #[.int .i64 a, .int .i64 b] 23)).alloc (.cells #[.int .i64 c, .int .i64 d] 23)) (w1 := _) (b := w.heap.size + 1 + 1) (T := 23) (a0 := .int .i64 0) (a1 := .int .i64 0) (by simp) (hB := (by show Below _ _ w1; repeat (first | exact Below.refl _ _ | refine Below.alloc ?_ (by first | omega | (simp; done) | (simp; omega)) _ | refine Below.setCell ?_ (by first | omega | (simp; done) | (simp; omega)) _ | refine Below.drew ?_ | refine Below.trans ?_ (Below.mono (by assumption) (by first | omega | (simp; done) | (simp; omega))))))
            exact bodyPost_ret (v := .tuple #[sp a b, .bool true]) (by simp [results, Try.results21, go_sem, e0, e1]) rfl ⟨rfl, (by repeat (first | exact Below.refl _ _ | refine Below.alloc ?_ (by first | omega | (simp; done) | (simp; omega)) _ | refine Below.setCell ?_ (by first | omega | (simp; done) | (simp; omega)) _ | refine Below.drew ?_ | refine Below.trans ?_ (Below.mono (by assumption) (by first | omega | (simp; done) | (simp; omega)))))⟩

end Go.Proofs.Ytghlkpaadahpaaa
