/- less; ahead; Len. -/
import Derived.Test.YtagcfomjbnecdaaM
import Derived.BigRegion
import Derived.BigQuiet
import Derived.Deep.QuietTactic
import Derived.StillTailTactics
namespace Go.Proofs.Ytagcfomjbnecdaa
open Go.RowKit

theorem less_any (a n b m : Int) (w : World) : Calls Try.prog 8 #[.agg #[.int .i64 a, .int .i64 n], .agg #[.int .i64 b, .int .i64 m]] w fun e w' => e = .returned (.bool (decide (a < b))) ∧ Kept (fun _ => False) w w' := by
  go_enter Try.func8, Try.ntmps8
  go_wp2
  go_ret
  exact ⟨rfl, ((Kept.refl _ _).alloc _).alloc _⟩

theorem len_any (w : World) (c : Nat) (vH : Value) (H : List It) (T : Int) (h : QM w c vH H T) :
    Calls Try.prog 14 #[.pointer (some ⟨c, 0, none⟩)] w fun e w' => e = .returned (.int .i64 H.length) ∧ w' = w := by
  have c0 := h.c0
  obtain ⟨A, cap, rfl, _, _⟩ := h.row.shape
  clear h
  generalize H.length = n at *
  go_enter Try.func14, Try.ntmps14
  go_wp2
  go_ret
  exact ⟨rfl, rfl⟩

theorem two_new (w : World) (X Y : Array Value) (T : TypeId) : (∀ k, (((w.alloc (.cells X T)).alloc (.cells Y T)).drew).cell? ⟨w.heap.size, k, none⟩ = X[k]?) ∧ (∀ k, (((w.alloc (.cells X T)).alloc (.cells Y T)).drew).cell? ⟨w.heap.size + 1, k, none⟩ = Y[k]?) ∧
    Kept (fun _ => False) w (((w.alloc (.cells X T)).alloc (.cells Y T)).drew) := by
  have k : Kept (fun _ => False) w (((w.alloc (.cells X T)).alloc (.cells Y T)).drew) := (((Kept.refl _ _).alloc _).alloc _).drew
  refine ⟨fun i => ?_, fun i => ?_, k⟩
  · have h1 := heap_alloc_new w (.cells X T)
    have k1 : Kept (fun _ => False) (w.alloc (.cells X T)) (((w.alloc (.cells X T)).alloc (.cells Y T)).drew) := ((Kept.refl _ _).alloc _).drew
    exact cell_of_row _ _ i X T (0, 0) (k1.heap h1 (fun q => q))
  · have h1 := heap_alloc_new (w.alloc (.cells X T)) (.cells Y T)
    have e : (w.alloc (.cells X T)).heap.size = w.heap.size + 1 := by simp
    rw [e] at h1
    have k1 : Kept (fun _ => False) ((w.alloc (.cells X T)).alloc (.cells Y T)) (((w.alloc (.cells X T)).alloc (.cells Y T)).drew) := (Kept.refl _ _).drew
    exact cell_of_row _ _ i Y T (0, 0) (k1.heap h1 (fun q => q))

theorem ret_bool {a b : Bool} (h : a = b) : Ending.returned (.bool a) = .returned (.bool b) := by rw [h]

set_option maxHeartbeats 2000000 in
theorem ahead_any (w : World) (c : Nat) (vH : Value) (H : List It) (T : Int) (h : QM w c vH H T) (i j : Nat) (hi : i < H.length) (hj : j < H.length) (hm : H.length ≤ 1000000) :
    Calls Try.prog 21 #[.pointer (some ⟨c, 0, none⟩), .int .i64 i, .int .i64 j] w fun e w' => e = .returned (.bool (ltB (g H i) (g H j))) ∧ Kept (fun _ => False) w w' := by
  have c0 := h.c0
  have c1 := h.c1
  have hcl := h.lt
  obtain ⟨b, cap, rfl, _, _, hbl, _, hcell⟩ := h.row.cells (fun e => by subst e; simp at hi)
  obtain ⟨x0, x1, x2⟩ := hcell i hi
  obtain ⟨y0, y1, y2⟩ := hcell j hj
  have hii : (i : Int) < (H.length : Int) := by omega
  have hji : (j : Int) < (H.length : Int) := by omega
  clear hcell h
  generalize g H i = x at *
  generalize g H j = y at *
  go_enter Try.func21, Try.ntmps21
  go_wp2
  go_region
  all_goals go_wp2
  · obtain ⟨i0, j0, k1⟩ := two_new w #[.int .i64 x.a, .int .i64 x.n, .int .i64 x.t] #[.int .i64 y.a, .int .i64 y.n, .int .i64 y.t] 49
    have q0 := k1.cell c0 (fun q => q)
    have q1 := k1.cell c1 (fun q => q)
    generalize ((w.alloc (Obj.cells #[.int .i64 x.a, .int .i64 x.n, .int .i64 x.t] 49)).alloc (Obj.cells #[.int .i64 y.a, .int .i64 y.n, .int .i64 y.t] 49)).drew = W1 at *
    have z0 : W1.cell? ⟨w.heap.size, 0, none⟩ = some (.int .i64 x.a) := i0 0
    have z1 : W1.cell? ⟨w.heap.size, 1, none⟩ = some (.int .i64 x.n) := i0 1
    have z2 : W1.cell? ⟨w.heap.size, 2, none⟩ = some (.int .i64 x.t) := i0 2
    have v0 : W1.cell? ⟨w.heap.size + 1, 0, none⟩ = some (.int .i64 y.a) := j0 0
    have v1 : W1.cell? ⟨w.heap.size + 1, 1, none⟩ = some (.int .i64 y.n) := j0 1
    have v2 : W1.cell? ⟨w.heap.size + 1, 2, none⟩ = some (.int .i64 y.t) := j0 2
    clear i0 j0 c0 c1 x0 x1 x2 y0 y1 y2 hcl hbl
    generalize w.heap.size + 1 = n1 at *
    generalize w.heap.size = n0 at *
    by_cases hlt : x.a < y.a
    · go_still_tail 8, (by kernel_rfl)
      change wpList _ _ _ _ _ W1.drew
      go_wp2_with fail
      refine (less_any _ _ _ _ _).mono ?_
      rintro e w2 ⟨rfl, k2⟩
      go_wp2_with fail
      go_ret
      exact ⟨ret_bool (by simp [ltB, lt, hlt]), k1.drew.trans k2⟩
    · go_still_tail 8, (by kernel_rfl)
      change wpList _ _ _ _ _ W1.drew
      go_wp2_with fail
      refine (less_any _ _ _ _ _).mono ?_
      rintro e w2 ⟨rfl, k2⟩
      have q1' := k2.cell (w := W1.drew) (p := ⟨c, 1, none⟩) q1 (fun q => q)
      have z0' := k2.cell (w := W1.drew) (p := ⟨n0, 0, none⟩) z0 (fun q => q)
      have z1' := k2.cell (w := W1.drew) (p := ⟨n0, 1, none⟩) z1 (fun q => q)
      have z2' := k2.cell (w := W1.drew) (p := ⟨n0, 2, none⟩) z2 (fun q => q)
      have v0' := k2.cell (w := W1.drew) (p := ⟨n1, 0, none⟩) v0 (fun q => q)
      have v1' := k2.cell (w := W1.drew) (p := ⟨n1, 1, none⟩) v1 (fun q => q)
      have v2' := k2.cell (w := W1.drew) (p := ⟨n1, 2, none⟩) v2 (fun q => q)
      have k12 := k1.drew.trans k2
      clear q0 q1 z0 z1 z2 v0 v1 v2 k2 k1
      go_wp2_with fail
      by_cases hgt : y.a < x.a
      · go_still_tail 8, (by kernel_rfl)
        change wpList _ _ _ _ _ w2.drew
        go_wp2_with fail
        refine (less_any _ _ _ _ _).mono ?_
        rintro e w3 ⟨rfl, k3⟩
        go_wp2_with fail
        go_ret
        exact ⟨ret_bool (by unfold ltB; rw [eq_comm, decide_eq_false_iff_not]; unfold lt; omega), k12.drew.trans k3⟩
      · go_still_tail 8, (by kernel_rfl)
        change wpList _ _ _ _ _ w2.drew
        go_wp2_with fail
        refine (less_any _ _ _ _ _).mono ?_
        rintro e w3 ⟨rfl, k3⟩
        have z2'' := k3.cell (w := w2.drew) (p := ⟨n0, 2, none⟩) z2' (fun q => q)
        have v2'' := k3.cell (w := w2.drew) (p := ⟨n1, 2, none⟩) v2' (fun q => q)
        clear q1' z0' z1' z2' v0' v1' v2'
        go_wp2_with fail
        go_ret
        exact ⟨ret_bool (by have : x.a = y.a := (by omega); simp [ltB, lt, this]), k12.drew.trans k3⟩
  · obtain ⟨i0, j0, k1⟩ := two_new w #[.int .i64 y.a, .int .i64 y.n, .int .i64 y.t] #[.int .i64 x.a, .int .i64 x.n, .int .i64 x.t] 49
    have q0 := k1.cell c0 (fun q => q)
    have q1 := k1.cell c1 (fun q => q)
    generalize ((w.alloc (Obj.cells #[.int .i64 y.a, .int .i64 y.n, .int .i64 y.t] 49)).alloc (Obj.cells #[.int .i64 x.a, .int .i64 x.n, .int .i64 x.t] 49)).drew = W1 at *
    have z0 : W1.cell? ⟨w.heap.size + 1, 0, none⟩ = some (.int .i64 x.a) := j0 0
    have z1 : W1.cell? ⟨w.heap.size + 1, 1, none⟩ = some (.int .i64 x.n) := j0 1
    have z2 : W1.cell? ⟨w.heap.size + 1, 2, none⟩ = some (.int .i64 x.t) := j0 2
    have v0 : W1.cell? ⟨w.heap.size, 0, none⟩ = some (.int .i64 y.a) := i0 0
    have v1 : W1.cell? ⟨w.heap.size, 1, none⟩ = some (.int .i64 y.n) := i0 1
    have v2 : W1.cell? ⟨w.heap.size, 2, none⟩ = some (.int .i64 y.t) := i0 2
    clear i0 j0 c0 c1 x0 x1 x2 y0 y1 y2 hcl hbl
    generalize w.heap.size + 1 = n1 at *
    generalize w.heap.size = n0 at *
    by_cases hlt : x.a < y.a
    · go_still_tail 8, (by kernel_rfl)
      change wpList _ _ _ _ _ W1.drew
      go_wp2_with fail
      refine (less_any _ _ _ _ _).mono ?_
      rintro e w2 ⟨rfl, k2⟩
      go_wp2_with fail
      go_ret
      exact ⟨ret_bool (by simp [ltB, lt, hlt]), k1.drew.trans k2⟩
    · go_still_tail 8, (by kernel_rfl)
      change wpList _ _ _ _ _ W1.drew
      go_wp2_with fail
      refine (less_any _ _ _ _ _).mono ?_
      rintro e w2 ⟨rfl, k2⟩
      have q1' := k2.cell (w := W1.drew) (p := ⟨c, 1, none⟩) q1 (fun q => q)
      have z0' := k2.cell (w := W1.drew) (p := ⟨n1, 0, none⟩) z0 (fun q => q)
      have z1' := k2.cell (w := W1.drew) (p := ⟨n1, 1, none⟩) z1 (fun q => q)
      have z2' := k2.cell (w := W1.drew) (p := ⟨n1, 2, none⟩) z2 (fun q => q)
      have v0' := k2.cell (w := W1.drew) (p := ⟨n0, 0, none⟩) v0 (fun q => q)
      have v1' := k2.cell (w := W1.drew) (p := ⟨n0, 1, none⟩) v1 (fun q => q)
      have v2' := k2.cell (w := W1.drew) (p := ⟨n0, 2, none⟩) v2 (fun q => q)
      have k12 := k1.drew.trans k2
      clear q0 q1 z0 z1 z2 v0 v1 v2 k2 k1
      go_wp2_with fail
      by_cases hgt : y.a < x.a
      · go_still_tail 8, (by kernel_rfl)
        change wpList _ _ _ _ _ w2.drew
        go_wp2_with fail
        refine (less_any _ _ _ _ _).mono ?_
        rintro e w3 ⟨rfl, k3⟩
        go_wp2_with fail
        go_ret
        exact ⟨ret_bool (by unfold ltB; rw [eq_comm, decide_eq_false_iff_not]; unfold lt; omega), k12.drew.trans k3⟩
      · go_still_tail 8, (by kernel_rfl)
        change wpList _ _ _ _ _ w2.drew
        go_wp2_with fail
        refine (less_any _ _ _ _ _).mono ?_
        rintro e w3 ⟨rfl, k3⟩
        have z2'' := k3.cell (w := w2.drew) (p := ⟨n1, 2, none⟩) z2' (fun q => q)
        have v2'' := k3.cell (w := w2.drew) (p := ⟨n0, 2, none⟩) v2' (fun q => q)
        clear q1' z0' z1' z2' v0' v1' v2'
        go_wp2_with fail
        go_ret
        exact ⟨ret_bool (by have : x.a = y.a := (by omega); simp [ltB, lt, this]), k12.drew.trans k3⟩
end Go.Proofs.Ytagcfomjbnecdaa
