/- New, Peek, Pop. -/
import Derived.Test.YtagcfomjbnecdaaG
namespace Go.Proofs.Ytagcfomjbnecdaa
open Go.RowKit

theorem IR.ofNil (w : World) : IR w (.slice none 0 0) [] := ⟨rfl, .inl ⟨rfl, rfl⟩⟩
theorem JR.ofNil (w : World) : JR w (.slice none 0 0) [] := ⟨rfl, .inl ⟨rfl, rfl⟩⟩

theorem new_any (w : World) : Calls Try.prog 7 #[lessV] w fun e w' => ∃ c, e = .returned (.pointer (some ⟨c, 0, none⟩)) ∧ w.heap.size ≤ c ∧ QM w' c (.slice none 0 0) [] 0 ∧ Kept (fun _ => False) w w' := by
  go_enter Try.func7, Try.ntmps7
  go_wp2
  go_ret
  exact ⟨_, rfl, Nat.le_refl _, ⟨heap_alloc_new w _, IR.ofNil _⟩, (Kept.refl _ _).alloc _⟩

def zeroJ : Value := .agg #[.int .i64 0, .int .i64 0]
def jval (x : J) : Value := .agg #[.int .i64 x.1, .int .i64 x.2]

set_option maxHeartbeats 1000000 in
theorem peek_nil (w : World) (c : Nat) (vH : Value) (T : Int) (h : QM w c vH [] T) :
    Calls Try.prog 12 #[.pointer (some ⟨c, 0, none⟩)] w fun e w' => e = .returned (.tuple #[.agg #[.int .i64 0, .int .i64 0], .bool false]) ∧ Kept (fun _ => False) w w' := by
  have hk := h.kept (S := fun _ => False) ((Kept.refl _ w).alloc (.cells #[.int .i64 0, .int .i64 0] 27)) (fun _ _ q => q)
  have hl := len_any _ c vH [] T hk
  go_enter Try.func12, Try.ntmps12
  go_wp2_with fail
  refine hl.mono ?_
  rintro e w2 ⟨rfl, rfl⟩
  go_wp2_with fail
  refine bodyPost_ret (v := .tuple #[.agg #[.int .i64 0, .int .i64 0], .bool false]) (by simp [results, Try.results12, go_sem]) rfl ⟨rfl, ?_⟩
  exact ((Kept.refl _ w).alloc _).alloc _

set_option maxHeartbeats 1000000 in
theorem peek_some (w : World) (c : Nat) (vH : Value) (H : List It) (T : Int) (h : QM w c vH H T) (hn : H ≠ []) (hm : H.length ≤ 1000) :
    Calls Try.prog 12 #[.pointer (some ⟨c, 0, none⟩)] w fun e w' => e = .returned (.tuple #[.agg #[.int .i64 (g H 0).a, .int .i64 (g H 0).n], .bool true]) ∧ Kept (fun _ => False) w w' := by
  have hpos := List.length_pos_iff.2 hn
  have kA : Kept (fun _ => False) w (w.alloc (.cells #[.int .i64 0, .int .i64 0] 27)) := (Kept.refl _ w).alloc _
  have hk := h.kept (S := fun _ => False) kA (fun _ _ q => q)
  have hl := len_any _ c vH H T hk
  have c0 := h.c0
  have hcl := h.lt
  obtain ⟨b, cap, rfl, _, _, hbl, _, hcell⟩ := h.row.cells hn
  obtain ⟨x0, x1, x2⟩ := hcell 0 hpos
  rw [Nat.zero_mul] at x0 x1
  have hpi : (0 : Int) < (H.length : Int) := by omega
  have hne : ((H.length : Int) == 0) = false := by simp only [beq_eq_false_iff_ne, ne_eq]; omega
  clear hcell h
  generalize g H 0 = x at *
  generalize H.length = n at *
  go_enter Try.func12, Try.ntmps12
  go_wp2_with fail
  refine hl.mono ?_
  rintro e w2 ⟨rfl, rfl⟩
  clear hl hk
  go_wp2_with fail
  refine bodyPost_ret (v := .tuple #[.agg #[.int .i64 x.a, .int .i64 x.n], .bool true]) (by simp [results, Try.results12, go_sem]) rfl ⟨rfl, ?_⟩
  exact (Kept.refl _ w).alloc _
end Go.Proofs.Ytagcfomjbnecdaa
