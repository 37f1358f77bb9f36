/- Contracts of the given program's spans: tick, May, Make, Has, Length, told; and of the reference's. -/
import Derived.Test.YtghlkpaadahpaaaChecked
import Derived.Test.YtghlkpaadahpaaaFl
import Derived.WalkKit
import Derived.WalkLawsBesides
import Derived.Lib.Hide
import Derived.KernelRfl
import Derived.BigQuiet
import Derived.Deep.QuietTactic
namespace Go.Proofs.Ytghlkpaadahpaaa
open Go.RowKit Fl

theorem bcell {W w1 : World} (hb : Below W.heap.size W w1) : (∀ b o, b < W.heap.size → w1.cell? ⟨b, o, none⟩ = W.cell? ⟨b, o, none⟩) ∧ (∀ b o, b < W.heap.size → w1.frozen? ⟨b, o, none⟩ = W.frozen? ⟨b, o, none⟩) :=
  ⟨fun b o h => hb.cell (p := ⟨b, o, none⟩) h, fun b o h => hb.frozen (p := ⟨b, o, none⟩) h⟩

/-- The slot of a struct result, stored into behind calls. -/
theorem ret_slot {W w1 : World} {b T : Nat} {a0 a1 : Value} (hs : W.heap.size = b) (hB : Below (b + 1) (W.alloc (.cells #[a0, a1] T)) w1) :
    (∀ x, (w1.setCell ⟨b, 0, none⟩ x).cell? ⟨b, 0, none⟩ = some x) ∧ (∀ x y, ((w1.setCell ⟨b, 0, none⟩ x).setCell ⟨b, 1, none⟩ y).cell? ⟨b, 1, none⟩ = some y) := by
  subst hs
  have h0 : w1.cell? ⟨W.heap.size, 0, none⟩ = some a0 := by rw [hB.cell (p := ⟨W.heap.size, 0, none⟩) (Nat.lt_succ_self _)]; simp
  have h1 : w1.cell? ⟨W.heap.size, 1, none⟩ = some a1 := by rw [hB.cell (p := ⟨W.heap.size, 1, none⟩) (Nat.lt_succ_self _)]; simp
  exact ⟨fun _ => World.cell?_setCell_same _ _ _ h0, fun _ _ => World.cell?_setCell_same (u := a1) _ _ _ (by rw [World.cell?_setCell_other _ _ _ _ (by simp)]; exact h1)⟩

theorem ret_slot2 {w2 : World} {b : Nat} {a0 a1 : Value} (h0 : w2.cell? ⟨b, 0, none⟩ = some a0) (h1 : w2.cell? ⟨b, 1, none⟩ = some a1) :
    (∀ x, (w2.setCell ⟨b, 0, none⟩ x).cell? ⟨b, 0, none⟩ = some x) ∧ (∀ x y, ((w2.setCell ⟨b, 0, none⟩ x).setCell ⟨b, 1, none⟩ y).cell? ⟨b, 1, none⟩ = some y) :=
  ⟨fun _ => World.cell?_setCell_same _ _ _ h0, fun _ _ => World.cell?_setCell_same (u := a1) _ _ _ (by rw [World.cell?_setCell_other _ _ _ _ (by simp)]; exact h1)⟩

theorem set_same {w : World} {p : Addr} {v : Value} (h : w.cell? p = some v) : ∀ x, (w.setCell p x).cell? p = some x := fun _ => World.cell?_setCell_same _ _ _ h

/-- v is returned; nothing that was there has changed. -/
def PV (v : Value) (w : World) (e : Ending) (w' : World) : Prop := e = .returned v ∧ Below w.heap.size w w'

abbrev sp (f t : Int) : Value := .agg #[.int .i64 f, .int .i64 t]

def tickB (t : Int) : Bool := decide (0 ≤ t ∧ t ≤ 1125899906842624)
def mayB (f t : Int) : Bool := decide (0 ≤ f ∧ f ≤ 1125899906842624 ∧ 0 ≤ t ∧ t ≤ 1125899906842624 ∧ f < t)
theorem tick_iff {t : Int} : tickB t = true ↔ (0 ≤ t ∧ t ≤ 1125899906842624) := by simp [tickB]
theorem tick_no {t : Int} : tickB t = false ↔ ¬ (0 ≤ t ∧ t ≤ 1125899906842624) := by simp only [tickB, decide_eq_false_iff_not]
theorem may_iff {f t : Int} : mayB f t = true ↔ (0 ≤ f ∧ f ≤ 1125899906842624 ∧ 0 ≤ t ∧ t ≤ 1125899906842624 ∧ f < t) := by simp [mayB]
theorem may_no {f t : Int} : mayB f t = false ↔ ¬ (0 ≤ f ∧ f ≤ 1125899906842624 ∧ 0 ≤ t ∧ t ≤ 1125899906842624 ∧ f < t) := by simp only [mayB, decide_eq_false_iff_not]

theorem tick_of (w : World) (t : Int) (r : Bool) (h : tickB t = r) : Calls Try.prog 33 #[.int .i64 t] w fun e w' => e = .returned (.bool r) ∧ w = w' := by
  subst h
  by_cases h1 : 0 ≤ t
  · by_cases h2 : t ≤ 1125899906842624
    · skip
      have hb : tickB t = true := tick_iff.2 (by omega)
      rw [hb]; clear hb
      go_enter Try.func33, Try.ntmps33
      go_wp2_with fail
      go_ret
      exact ⟨rfl, rfl⟩
    · skip
      have hb : tickB t = false := tick_no.2 (by omega)
      rw [hb]; clear hb
      go_enter Try.func33, Try.ntmps33
      go_wp2_with fail
      go_ret
      exact ⟨rfl, rfl⟩
  · skip
    have hb : tickB t = false := tick_no.2 (by omega)
    rw [hb]; clear hb
    go_enter Try.func33, Try.ntmps33
    go_wp2_with fail
    go_ret
    exact ⟨rfl, rfl⟩

theorem rtick_of (w : World) (t : Int) (r : Bool) (h : tickB t = r) : Calls Try.prog 34 #[.int .i64 t] w fun e w' => e = .returned (.bool r) ∧ w = w' := by
  subst h
  by_cases h1 : 0 ≤ t
  · by_cases h2 : t ≤ 1125899906842624
    · skip
      have hb : tickB t = true := tick_iff.2 (by omega)
      rw [hb]; clear hb
      go_enter Try.func34, Try.ntmps34
      go_wp2_with fail
      go_ret
      exact ⟨rfl, rfl⟩
    · skip
      have hb : tickB t = false := tick_no.2 (by omega)
      rw [hb]; clear hb
      go_enter Try.func34, Try.ntmps34
      go_wp2_with fail
      go_ret
      exact ⟨rfl, rfl⟩
  · skip
    have hb : tickB t = false := tick_no.2 (by omega)
    rw [hb]; clear hb
    go_enter Try.func34, Try.ntmps34
    go_wp2_with fail
    go_ret
    exact ⟨rfl, rfl⟩

theorem may_of (w : World) (f t : Int) (r : Bool) (h : mayB f t = r) : Calls Try.prog 15 #[sp f t] w (PV (.bool r) w) := by
  subst h
  cases h1 : tickB f with
  | false =>
    have hb : mayB f t = false := by rw [may_no]; simp only [tick_no] at *; omega
    rw [hb]; clear hb
    go_enter Try.func15, Try.ntmps15
    go_wp2_with (go_at_call 33; (with_reducible refine (tick_of _ _ _ h1).mono ?_); rintro e w' ⟨rfl, rfl⟩)
    go_ret
    exact ⟨rfl, (by repeat (first | exact Below.refl _ _ | refine Below.alloc ?_ (by first | omega | (simp; done) | (simp; omega)) _ | refine Below.setCell ?_ (by first | omega | (simp; done) | (simp; omega)) _ | refine Below.drew ?_ | refine Below.trans ?_ (Below.mono (by assumption) (by first | omega | (simp; done) | (simp; omega)))))⟩
  | true =>
    cases h2 : tickB t with
    | false =>
      have hb : mayB f t = false := by rw [may_no]; simp only [tick_iff, tick_no] at *; omega
      rw [hb]; clear hb
      go_enter Try.func15, Try.ntmps15
      go_wp2_with (first | (go_at_call 33; (with_reducible refine (tick_of _ _ _ h1).mono ?_); rintro e w' ⟨rfl, rfl⟩) | (go_at_call 33; (with_reducible refine (tick_of _ _ _ h2).mono ?_); rintro e w' ⟨rfl, rfl⟩))
      go_ret
      exact ⟨rfl, (by repeat (first | exact Below.refl _ _ | refine Below.alloc ?_ (by first | omega | (simp; done) | (simp; omega)) _ | refine Below.setCell ?_ (by first | omega | (simp; done) | (simp; omega)) _ | refine Below.drew ?_ | refine Below.trans ?_ (Below.mono (by assumption) (by first | omega | (simp; done) | (simp; omega)))))⟩
    | true =>
      by_cases h3 : f < t
      · skip
        have hb : mayB f t = true := by rw [may_iff]; simp only [tick_iff] at *; omega
        rw [hb]; clear hb
        go_enter Try.func15, Try.ntmps15
        go_wp2_with (first | (go_at_call 33; (with_reducible refine (tick_of _ _ _ h1).mono ?_); rintro e w' ⟨rfl, rfl⟩) | (go_at_call 33; (with_reducible refine (tick_of _ _ _ h2).mono ?_); rintro e w' ⟨rfl, rfl⟩))
        go_ret
        exact ⟨rfl, (by repeat (first | exact Below.refl _ _ | refine Below.alloc ?_ (by first | omega | (simp; done) | (simp; omega)) _ | refine Below.setCell ?_ (by first | omega | (simp; done) | (simp; omega)) _ | refine Below.drew ?_ | refine Below.trans ?_ (Below.mono (by assumption) (by first | omega | (simp; done) | (simp; omega)))))⟩
      · skip
        have hb : mayB f t = false := by rw [may_no]; simp only [tick_iff] at *; omega
        rw [hb]; clear hb
        have h3' : decide (f < t) = false := by simpa using h3
        go_enter Try.func15, Try.ntmps15
        go_wp2_with (first | (go_at_call 33; (with_reducible refine (tick_of _ _ _ h1).mono ?_); rintro e w' ⟨rfl, rfl⟩) | (go_at_call 33; (with_reducible refine (tick_of _ _ _ h2).mono ?_); rintro e w' ⟨rfl, rfl⟩))
        go_ret
        exact ⟨rfl, (by repeat (first | exact Below.refl _ _ | refine Below.alloc ?_ (by first | omega | (simp; done) | (simp; omega)) _ | refine Below.setCell ?_ (by first | omega | (simp; done) | (simp; omega)) _ | refine Below.drew ?_ | refine Below.trans ?_ (Below.mono (by assumption) (by first | omega | (simp; done) | (simp; omega)))))⟩

theorem rmay_of (w : World) (f t : Int) (r : Bool) (h : mayB f t = r) : Calls Try.prog 32 #[sp f t] w (PV (.bool r) w) := by
  subst h
  cases h1 : tickB f with
  | false =>
    have hb : mayB f t = false := by rw [may_no]; simp only [tick_no] at *; omega
    rw [hb]; clear hb
    go_enter Try.func32, Try.ntmps32
    go_wp2_with (go_at_call 34; (with_reducible refine (rtick_of _ _ _ h1).mono ?_); rintro e w' ⟨rfl, rfl⟩)
    go_ret
    exact ⟨rfl, (by repeat (first | exact Below.refl _ _ | refine Below.alloc ?_ (by first | omega | (simp; done) | (simp; omega)) _ | refine Below.setCell ?_ (by first | omega | (simp; done) | (simp; omega)) _ | refine Below.drew ?_ | refine Below.trans ?_ (Below.mono (by assumption) (by first | omega | (simp; done) | (simp; omega)))))⟩
  | true =>
    cases h2 : tickB t with
    | false =>
      have hb : mayB f t = false := by rw [may_no]; simp only [tick_iff, tick_no] at *; omega
      rw [hb]; clear hb
      go_enter Try.func32, Try.ntmps32
      go_wp2_with (first | (go_at_call 34; (with_reducible refine (rtick_of _ _ _ h1).mono ?_); rintro e w' ⟨rfl, rfl⟩) | (go_at_call 34; (with_reducible refine (rtick_of _ _ _ h2).mono ?_); rintro e w' ⟨rfl, rfl⟩))
      go_ret
      exact ⟨rfl, (by repeat (first | exact Below.refl _ _ | refine Below.alloc ?_ (by first | omega | (simp; done) | (simp; omega)) _ | refine Below.setCell ?_ (by first | omega | (simp; done) | (simp; omega)) _ | refine Below.drew ?_ | refine Below.trans ?_ (Below.mono (by assumption) (by first | omega | (simp; done) | (simp; omega)))))⟩
    | true =>
      by_cases h3 : f < t
      · skip
        have hb : mayB f t = true := by rw [may_iff]; simp only [tick_iff] at *; omega
        rw [hb]; clear hb
        go_enter Try.func32, Try.ntmps32
        go_wp2_with (first | (go_at_call 34; (with_reducible refine (rtick_of _ _ _ h1).mono ?_); rintro e w' ⟨rfl, rfl⟩) | (go_at_call 34; (with_reducible refine (rtick_of _ _ _ h2).mono ?_); rintro e w' ⟨rfl, rfl⟩))
        go_ret
        exact ⟨rfl, (by repeat (first | exact Below.refl _ _ | refine Below.alloc ?_ (by first | omega | (simp; done) | (simp; omega)) _ | refine Below.setCell ?_ (by first | omega | (simp; done) | (simp; omega)) _ | refine Below.drew ?_ | refine Below.trans ?_ (Below.mono (by assumption) (by first | omega | (simp; done) | (simp; omega)))))⟩
      · skip
        have hb : mayB f t = false := by rw [may_no]; simp only [tick_iff] at *; omega
        rw [hb]; clear hb
        have h3' : decide (f < t) = false := by simpa using h3
        go_enter Try.func32, Try.ntmps32
        go_wp2_with (first | (go_at_call 34; (with_reducible refine (rtick_of _ _ _ h1).mono ?_); rintro e w' ⟨rfl, rfl⟩) | (go_at_call 34; (with_reducible refine (rtick_of _ _ _ h2).mono ?_); rintro e w' ⟨rfl, rfl⟩))
        go_ret
        exact ⟨rfl, (by repeat (first | exact Below.refl _ _ | refine Below.alloc ?_ (by first | omega | (simp; done) | (simp; omega)) _ | refine Below.setCell ?_ (by first | omega | (simp; done) | (simp; omega)) _ | refine Below.drew ?_ | refine Below.trans ?_ (Below.mono (by assumption) (by first | omega | (simp; done) | (simp; omega)))))⟩

def mkE (f t : Int) : Int := if tickB f = false ∨ tickB t = false then 13 else if t ≤ f then 14 else 0
def mkF (f t : Int) : Int := if mkE f t = 0 then f else 0
def mkT (f t : Int) : Int := if mkE f t = 0 then t else 0

theorem make_any (w : World) (f t : Int) : Calls Try.prog 13 #[.int .i64 f, .int .i64 t] w (PV (.tuple #[sp (mkF f t) (mkT f t), .int .i64 (mkE f t)]) w) := by
  cases h1 : tickB f with
  | false =>
    have he : mkE f t = 13 := by simp [mkE, h1]
    have hF : mkF f t = 0 := by simp [mkF, he]
    have hT : mkT f t = 0 := by simp [mkT, he]
    rw [he, hF, hT]; clear he hF hT
    go_enter Try.func13, Try.ntmps13
    go_wp2_with (go_at_call 33; (with_reducible refine (tick_of _ _ _ h1).mono ?_); rintro e w' ⟨rfl, rfl⟩)
    exact bodyPost_ret (v := .tuple #[sp 0 0, .int .i64 13]) (by simp [results, Try.results13, go_sem]) rfl ⟨rfl, (by repeat (first | exact Below.refl _ _ | refine Below.alloc ?_ (by first | omega | (simp; done) | (simp; omega)) _ | refine Below.setCell ?_ (by first | omega | (simp; done) | (simp; omega)) _ | refine Below.drew ?_ | refine Below.trans ?_ (Below.mono (by assumption) (by first | omega | (simp; done) | (simp; omega)))))⟩
  | true =>
    cases h2 : tickB t with
    | false =>
      have he : mkE f t = 13 := by simp [mkE, h2]
      have hF : mkF f t = 0 := by simp [mkF, he]
      have hT : mkT f t = 0 := by simp [mkT, he]
      rw [he, hF, hT]; clear he hF hT
      go_enter Try.func13, Try.ntmps13
      go_wp2_with (first | (go_at_call 33; (with_reducible refine (tick_of _ _ _ h1).mono ?_); rintro e w' ⟨rfl, rfl⟩) | (go_at_call 33; (with_reducible refine (tick_of _ _ _ h2).mono ?_); rintro e w' ⟨rfl, rfl⟩))
      exact bodyPost_ret (v := .tuple #[sp 0 0, .int .i64 13]) (by simp [results, Try.results13, go_sem]) rfl ⟨rfl, (by repeat (first | exact Below.refl _ _ | refine Below.alloc ?_ (by first | omega | (simp; done) | (simp; omega)) _ | refine Below.setCell ?_ (by first | omega | (simp; done) | (simp; omega)) _ | refine Below.drew ?_ | refine Below.trans ?_ (Below.mono (by assumption) (by first | omega | (simp; done) | (simp; omega)))))⟩
    | true =>
      by_cases h3 : t ≤ f
      · skip
        have he : mkE f t = 14 := by simp [mkE, h1, h2, h3]
        have hF : mkF f t = 0 := by simp [mkF, he]
        have hT : mkT f t = 0 := by simp [mkT, he]
        rw [he, hF, hT]; clear he hF hT
        go_enter Try.func13, Try.ntmps13
        go_wp2_with (first | (go_at_call 33; (with_reducible refine (tick_of _ _ _ h1).mono ?_); rintro e w' ⟨rfl, rfl⟩) | (go_at_call 33; (with_reducible refine (tick_of _ _ _ h2).mono ?_); rintro e w' ⟨rfl, rfl⟩))
        exact bodyPost_ret (v := .tuple #[sp 0 0, .int .i64 14]) (by simp [results, Try.results13, go_sem]) rfl ⟨rfl, (by repeat (first | exact Below.refl _ _ | refine Below.alloc ?_ (by first | omega | (simp; done) | (simp; omega)) _ | refine Below.setCell ?_ (by first | omega | (simp; done) | (simp; omega)) _ | refine Below.drew ?_ | refine Below.trans ?_ (Below.mono (by assumption) (by first | omega | (simp; done) | (simp; omega)))))⟩
      · skip
        have he : mkE f t = 0 := by simp [mkE, h1, h2, h3]
        have hF : mkF f t = f := by simp [mkF, he]
        have hT : mkT f t = t := by simp [mkT, he]
        rw [he, hF, hT]; clear he hF hT
        go_enter Try.func13, Try.ntmps13
        go_wp2_with (first | (go_at_call 33; (with_reducible refine (tick_of _ _ _ h1).mono ?_); rintro e w' ⟨rfl, rfl⟩) | (go_at_call 33; (with_reducible refine (tick_of _ _ _ h2).mono ?_); rintro e w' ⟨rfl, rfl⟩))
        exact bodyPost_ret (v := .tuple #[sp f t, .int .i64 0]) (by simp [results, Try.results13, go_sem]) rfl ⟨rfl, (by repeat (first | exact Below.refl _ _ | refine Below.alloc ?_ (by first | omega | (simp; done) | (simp; omega)) _ | refine Below.setCell ?_ (by first | omega | (simp; done) | (simp; omega)) _ | refine Below.drew ?_ | refine Below.trans ?_ (Below.mono (by assumption) (by first | omega | (simp; done) | (simp; omega)))))⟩

theorem rmake_any (w : World) (f t : Int) : Calls Try.prog 14 #[.int .i64 f, .int .i64 t] w (PV (.tuple #[sp (mkF f t) (mkT f t), .int .i64 (mkE f t)]) w) := by
  cases h1 : tickB f with
  | false =>
    have he : mkE f t = 13 := by simp [mkE, h1]
    have hF : mkF f t = 0 := by simp [mkF, he]
    have hT : mkT f t = 0 := by simp [mkT, he]
    rw [he, hF, hT]; clear he hF hT
    go_enter Try.func14, Try.ntmps14
    go_wp2_with (go_at_call 34; (with_reducible refine (rtick_of _ _ _ h1).mono ?_); rintro e w' ⟨rfl, rfl⟩)
    exact bodyPost_ret (v := .tuple #[sp 0 0, .int .i64 13]) (by simp [results, Try.results14, go_sem]) rfl ⟨rfl, (by repeat (first | exact Below.refl _ _ | refine Below.alloc ?_ (by first | omega | (simp; done) | (simp; omega)) _ | refine Below.setCell ?_ (by first | omega | (simp; done) | (simp; omega)) _ | refine Below.drew ?_ | refine Below.trans ?_ (Below.mono (by assumption) (by first | omega | (simp; done) | (simp; omega)))))⟩
  | true =>
    cases h2 : tickB t with
    | false =>
      have he : mkE f t = 13 := by simp [mkE, h2]
      have hF : mkF f t = 0 := by simp [mkF, he]
      have hT : mkT f t = 0 := by simp [mkT, he]
      rw [he, hF, hT]; clear he hF hT
      go_enter Try.func14, Try.ntmps14
      go_wp2_with (first | (go_at_call 34; (with_reducible refine (rtick_of _ _ _ h1).mono ?_); rintro e w' ⟨rfl, rfl⟩) | (go_at_call 34; (with_reducible refine (rtick_of _ _ _ h2).mono ?_); rintro e w' ⟨rfl, rfl⟩))
      exact bodyPost_ret (v := .tuple #[sp 0 0, .int .i64 13]) (by simp [results, Try.results14, go_sem]) rfl ⟨rfl, (by repeat (first | exact Below.refl _ _ | refine Below.alloc ?_ (by first | omega | (simp; done) | (simp; omega)) _ | refine Below.setCell ?_ (by first | omega | (simp; done) | (simp; omega)) _ | refine Below.drew ?_ | refine Below.trans ?_ (Below.mono (by assumption) (by first | omega | (simp; done) | (simp; omega)))))⟩
    | true =>
      by_cases h3 : t ≤ f
      · skip
        have he : mkE f t = 14 := by simp [mkE, h1, h2, h3]
        have hF : mkF f t = 0 := by simp [mkF, he]
        have hT : mkT f t = 0 := by simp [mkT, he]
        rw [he, hF, hT]; clear he hF hT
        go_enter Try.func14, Try.ntmps14
        go_wp2_with (first | (go_at_call 34; (with_reducible refine (rtick_of _ _ _ h1).mono ?_); rintro e w' ⟨rfl, rfl⟩) | (go_at_call 34; (with_reducible refine (rtick_of _ _ _ h2).mono ?_); rintro e w' ⟨rfl, rfl⟩))
        exact bodyPost_ret (v := .tuple #[sp 0 0, .int .i64 14]) (by simp [results, Try.results14, go_sem]) rfl ⟨rfl, (by repeat (first | exact Below.refl _ _ | refine Below.alloc ?_ (by first | omega | (simp; done) | (simp; omega)) _ | refine Below.setCell ?_ (by first | omega | (simp; done) | (simp; omega)) _ | refine Below.drew ?_ | refine Below.trans ?_ (Below.mono (by assumption) (by first | omega | (simp; done) | (simp; omega)))))⟩
      · skip
        have he : mkE f t = 0 := by simp [mkE, h1, h2, h3]
        have hF : mkF f t = f := by simp [mkF, he]
        have hT : mkT f t = t := by simp [mkT, he]
        rw [he, hF, hT]; clear he hF hT
        go_enter Try.func14, Try.ntmps14
        go_wp2_with (first | (go_at_call 34; (with_reducible refine (rtick_of _ _ _ h1).mono ?_); rintro e w' ⟨rfl, rfl⟩) | (go_at_call 34; (with_reducible refine (rtick_of _ _ _ h2).mono ?_); rintro e w' ⟨rfl, rfl⟩))
        exact bodyPost_ret (v := .tuple #[sp f t, .int .i64 0]) (by simp [results, Try.results14, go_sem]) rfl ⟨rfl, (by repeat (first | exact Below.refl _ _ | refine Below.alloc ?_ (by first | omega | (simp; done) | (simp; omega)) _ | refine Below.setCell ?_ (by first | omega | (simp; done) | (simp; omega)) _ | refine Below.drew ?_ | refine Below.trans ?_ (Below.mono (by assumption) (by first | omega | (simp; done) | (simp; omega)))))⟩

def hasB (f t u : Int) : Bool := decide (mayB f t = true ∧ f ≤ u ∧ u < t)
theorem has_iff {f t u : Int} : hasB f t u = true ↔ (mayB f t = true ∧ f ≤ u ∧ u < t) := by simp [hasB]
theorem has_no {f t u : Int} : hasB f t u = false ↔ ¬ (mayB f t = true ∧ f ≤ u ∧ u < t) := by simp only [hasB, decide_eq_false_iff_not]

theorem has_any (w : World) (f t u : Int) : Calls Try.prog 16 #[sp f t, .int .i64 u] w (PV (.bool (hasB f t u)) w) := by
  cases h1 : mayB f t with
  | false =>
    have hb : hasB f t u = false := by rw [has_no]; intro ⟨a, b, c⟩; first | omega | simp_all
    rw [hb]; clear hb
    go_enter Try.func16, Try.ntmps16
    go_wp2_with (go_at_call 15; (with_reducible refine (may_of _ _ _ _ h1).mono ?_); rintro e w1 ⟨rfl, hb⟩; obtain ⟨hc, hf⟩ := bcell hb; have hz := hb.size; (try simp at hz))
    go_ret
    exact ⟨rfl, (by repeat (first | exact Below.refl _ _ | refine Below.alloc ?_ (by first | omega | (simp; done) | (simp; omega)) _ | refine Below.setCell ?_ (by first | omega | (simp; done) | (simp; omega)) _ | refine Below.drew ?_ | refine Below.trans ?_ (Below.mono (by assumption) (by first | omega | (simp; done) | (simp; omega)))))⟩
  | true =>
    by_cases h2 : f ≤ u
    · by_cases h3 : u < t
      · skip
        have hb : hasB f t u = true := by rw [has_iff]; exact ⟨h1, h2, h3⟩
        rw [hb]; clear hb
        go_enter Try.func16, Try.ntmps16
        go_wp2_with (go_at_call 15; (with_reducible refine (may_of _ _ _ _ h1).mono ?_); rintro e w1 ⟨rfl, hb⟩; obtain ⟨hc, hf⟩ := bcell hb; have hz := hb.size; (try simp at hz))
        go_ret
        exact ⟨rfl, (by repeat (first | exact Below.refl _ _ | refine Below.alloc ?_ (by first | omega | (simp; done) | (simp; omega)) _ | refine Below.setCell ?_ (by first | omega | (simp; done) | (simp; omega)) _ | refine Below.drew ?_ | refine Below.trans ?_ (Below.mono (by assumption) (by first | omega | (simp; done) | (simp; omega)))))⟩
      · skip
        have hb : hasB f t u = false := by rw [has_no]; intro ⟨a, b, c⟩; first | omega | simp_all
        rw [hb]; clear hb
        have h3' : decide (u < t) = false := by simpa using h3
        go_enter Try.func16, Try.ntmps16
        go_wp2_with (go_at_call 15; (with_reducible refine (may_of _ _ _ _ h1).mono ?_); rintro e w1 ⟨rfl, hb⟩; obtain ⟨hc, hf⟩ := bcell hb; have hz := hb.size; (try simp at hz))
        go_ret
        exact ⟨rfl, (by repeat (first | exact Below.refl _ _ | refine Below.alloc ?_ (by first | omega | (simp; done) | (simp; omega)) _ | refine Below.setCell ?_ (by first | omega | (simp; done) | (simp; omega)) _ | refine Below.drew ?_ | refine Below.trans ?_ (Below.mono (by assumption) (by first | omega | (simp; done) | (simp; omega)))))⟩
    · skip
      have hb : hasB f t u = false := by rw [has_no]; intro ⟨a, b, c⟩; first | omega | simp_all
      rw [hb]; clear hb
      have h2' : decide (f ≤ u) = false := by simpa using h2
      go_enter Try.func16, Try.ntmps16
      go_wp2_with (go_at_call 15; (with_reducible refine (may_of _ _ _ _ h1).mono ?_); rintro e w1 ⟨rfl, hb⟩; obtain ⟨hc, hf⟩ := bcell hb; have hz := hb.size; (try simp at hz))
      go_ret
      exact ⟨rfl, (by repeat (first | exact Below.refl _ _ | refine Below.alloc ?_ (by first | omega | (simp; done) | (simp; omega)) _ | refine Below.setCell ?_ (by first | omega | (simp; done) | (simp; omega)) _ | refine Below.drew ?_ | refine Below.trans ?_ (Below.mono (by assumption) (by first | omega | (simp; done) | (simp; omega)))))⟩

theorem rhas_any (w : World) (f t u : Int) : Calls Try.prog 17 #[sp f t, .int .i64 u] w (PV (.bool (hasB f t u)) w) := by
  cases h1 : mayB f t with
  | false =>
    have hb : hasB f t u = false := by rw [has_no]; intro ⟨a, b, c⟩; first | omega | simp_all
    rw [hb]; clear hb
    go_enter Try.func17, Try.ntmps17
    go_wp2_with (go_at_call 32; (with_reducible refine (rmay_of _ _ _ _ h1).mono ?_); rintro e w1 ⟨rfl, hb⟩; obtain ⟨hc, hf⟩ := bcell hb; have hz := hb.size; (try simp at hz))
    go_ret
    exact ⟨rfl, (by repeat (first | exact Below.refl _ _ | refine Below.alloc ?_ (by first | omega | (simp; done) | (simp; omega)) _ | refine Below.setCell ?_ (by first | omega | (simp; done) | (simp; omega)) _ | refine Below.drew ?_ | refine Below.trans ?_ (Below.mono (by assumption) (by first | omega | (simp; done) | (simp; omega)))))⟩
  | true =>
    by_cases h2 : f ≤ u
    · by_cases h3 : u < t
      · skip
        have hb : hasB f t u = true := by rw [has_iff]; exact ⟨h1, h2, h3⟩
        rw [hb]; clear hb
        go_enter Try.func17, Try.ntmps17
        go_wp2_with (go_at_call 32; (with_reducible refine (rmay_of _ _ _ _ h1).mono ?_); rintro e w1 ⟨rfl, hb⟩; obtain ⟨hc, hf⟩ := bcell hb; have hz := hb.size; (try simp at hz))
        go_ret
        exact ⟨rfl, (by repeat (first | exact Below.refl _ _ | refine Below.alloc ?_ (by first | omega | (simp; done) | (simp; omega)) _ | refine Below.setCell ?_ (by first | omega | (simp; done) | (simp; omega)) _ | refine Below.drew ?_ | refine Below.trans ?_ (Below.mono (by assumption) (by first | omega | (simp; done) | (simp; omega)))))⟩
      · skip
        have hb : hasB f t u = false := by rw [has_no]; intro ⟨a, b, c⟩; first | omega | simp_all
        rw [hb]; clear hb
        have h3' : decide (u < t) = false := by simpa using h3
        go_enter Try.func17, Try.ntmps17
        go_wp2_with (go_at_call 32; (with_reducible refine (rmay_of _ _ _ _ h1).mono ?_); rintro e w1 ⟨rfl, hb⟩; obtain ⟨hc, hf⟩ := bcell hb; have hz := hb.size; (try simp at hz))
        go_ret
        exact ⟨rfl, (by repeat (first | exact Below.refl _ _ | refine Below.alloc ?_ (by first | omega | (simp; done) | (simp; omega)) _ | refine Below.setCell ?_ (by first | omega | (simp; done) | (simp; omega)) _ | refine Below.drew ?_ | refine Below.trans ?_ (Below.mono (by assumption) (by first | omega | (simp; done) | (simp; omega)))))⟩
    · skip
      have hb : hasB f t u = false := by rw [has_no]; intro ⟨a, b, c⟩; first | omega | simp_all
      rw [hb]; clear hb
      have h2' : decide (f ≤ u) = false := by simpa using h2
      go_enter Try.func17, Try.ntmps17
      go_wp2_with (go_at_call 32; (with_reducible refine (rmay_of _ _ _ _ h1).mono ?_); rintro e w1 ⟨rfl, hb⟩; obtain ⟨hc, hf⟩ := bcell hb; have hz := hb.size; (try simp at hz))
      go_ret
      exact ⟨rfl, (by repeat (first | exact Below.refl _ _ | refine Below.alloc ?_ (by first | omega | (simp; done) | (simp; omega)) _ | refine Below.setCell ?_ (by first | omega | (simp; done) | (simp; omega)) _ | refine Below.drew ?_ | refine Below.trans ?_ (Below.mono (by assumption) (by first | omega | (simp; done) | (simp; omega)))))⟩

def lenI (f t : Int) : Int := if mayB f t then t - f else 0

theorem length_any (w : World) (f t : Int) : Calls Try.prog 18 #[sp f t] w (PV (.int .i64 (lenI f t)) w) := by
  unfold lenI
  cases h1 : mayB f t with
  | false =>
    rw [if_neg (by decide)]
    go_enter Try.func18, Try.ntmps18
    go_wp2_with (go_at_call 15; (with_reducible refine (may_of _ _ _ _ h1).mono ?_); rintro e w1 ⟨rfl, hb⟩; obtain ⟨hc, hf⟩ := bcell hb; have hz := hb.size; (try simp at hz))
    go_ret
    exact ⟨rfl, (by repeat (first | exact Below.refl _ _ | refine Below.alloc ?_ (by first | omega | (simp; done) | (simp; omega)) _ | refine Below.setCell ?_ (by first | omega | (simp; done) | (simp; omega)) _ | refine Below.drew ?_ | refine Below.trans ?_ (Below.mono (by assumption) (by first | omega | (simp; done) | (simp; omega)))))⟩
  | true =>
    rw [if_pos rfl]
    obtain ⟨g0, g1, g2, g3, g4⟩ := may_iff.1 h1
    go_enter Try.func18, Try.ntmps18
    go_wp2_with (go_at_call 15; (with_reducible refine (may_of _ _ _ _ h1).mono ?_); rintro e w1 ⟨rfl, hb⟩; obtain ⟨hc, hf⟩ := bcell hb; have hz := hb.size; (try simp at hz))
    go_ret
    exact ⟨rfl, (by repeat (first | exact Below.refl _ _ | refine Below.alloc ?_ (by first | omega | (simp; done) | (simp; omega)) _ | refine Below.setCell ?_ (by first | omega | (simp; done) | (simp; omega)) _ | refine Below.drew ?_ | refine Below.trans ?_ (Below.mono (by assumption) (by first | omega | (simp; done) | (simp; omega)))))⟩

theorem told_no (w : World) (f t : Int) (h : mayB f t = false) : Calls Try.prog 36 #[.int .i64 f, .int .i64 t] w (PV (.tuple #[sp 0 0, .bool false]) w) := by
  go_enter Try.func36, Try.ntmps36
  go_wp2_with (go_at_call 15; (with_reducible refine (may_of _ _ _ _ h).mono ?_); rintro e w1 ⟨rfl, hb⟩; obtain ⟨hc, hf⟩ := bcell hb; have hz := hb.size; (try simp at hz))
  obtain ⟨e0, e1⟩ := ret_slot (W := w) (w1 := _) (b := w.heap.size) (T := 23) (a0 := .int .i64 0) (a1 := .int .i64 0) (by simp) (hB := (by show Below _ _ w1; repeat (first | exact Below.refl _ _ | refine Below.alloc ?_ (by first | omega | (simp; done) | (simp; omega)) _ | refine Below.setCell ?_ (by first | omega | (simp; done) | (simp; omega)) _ | refine Below.drew ?_ | refine Below.trans ?_ (Below.mono (by assumption) (by first | omega | (simp; done) | (simp; omega))))))
  exact bodyPost_ret (v := .tuple #[sp 0 0, .bool false]) (by simp [results, Try.results36, go_sem, e0, e1]) rfl ⟨rfl, (by repeat (first | exact Below.refl _ _ | refine Below.alloc ?_ (by first | omega | (simp; done) | (simp; omega)) _ | refine Below.setCell ?_ (by first | omega | (simp; done) | (simp; omega)) _ | refine Below.drew ?_ | refine Below.trans ?_ (Below.mono (by assumption) (by first | omega | (simp; done) | (simp; omega)))))⟩

theorem told_yes (w : World) (f t : Int) (h : mayB f t = true) : Calls Try.prog 36 #[.int .i64 f, .int .i64 t] w (PV (.tuple #[sp f t, .bool true]) w) := by
  go_enter Try.func36, Try.ntmps36
  go_wp2_with (go_at_call 15; (with_reducible refine (may_of _ _ _ _ h).mono ?_); rintro e w1 ⟨rfl, hb⟩; obtain ⟨hc, hf⟩ := bcell hb; have hz := hb.size; (try simp at hz))
  obtain ⟨e0, e1⟩ := ret_slot (W := w) (w1 := _) (b := w.heap.size) (T := 23) (a0 := .int .i64 0) (a1 := .int .i64 0) (by simp) (hB := (by show Below _ _ w1; repeat (first | exact Below.refl _ _ | refine Below.alloc ?_ (by first | omega | (simp; done) | (simp; omega)) _ | refine Below.setCell ?_ (by first | omega | (simp; done) | (simp; omega)) _ | refine Below.drew ?_ | refine Below.trans ?_ (Below.mono (by assumption) (by first | omega | (simp; done) | (simp; omega))))))
  exact bodyPost_ret (v := .tuple #[sp f t, .bool true]) (by simp [results, Try.results36, go_sem, e0, e1]) rfl ⟨rfl, (by repeat (first | exact Below.refl _ _ | refine Below.alloc ?_ (by first | omega | (simp; done) | (simp; omega)) _ | refine Below.setCell ?_ (by first | omega | (simp; done) | (simp; omega)) _ | refine Below.drew ?_ | refine Below.trans ?_ (Below.mono (by assumption) (by first | omega | (simp; done) | (simp; omega)))))⟩

end Go.Proofs.Ytghlkpaadahpaaa
