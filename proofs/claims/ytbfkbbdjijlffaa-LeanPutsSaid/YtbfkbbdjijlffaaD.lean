/- Contracts of the reference's leans. -/
import Derived.Test.YtbfkbbdjijlffaaC
import Derived.BigQuiet
import Derived.Deep.QuietTactic
import Derived.StillTailTactics
namespace Go.Proofs.Ytbfkbbdjijlffaa
open Go.RowKit Fl

theorem far_any (w : World) (X Y : Int) : Calls Try.prog 19 #[.int .i64 X, .int .i64 Y] w fun e w' => e = .returned (.bool (farB X Y)) ∧ w = w' := by
  by_cases h1 : 1125899906842624 < X
  · have hb : farB X Y = true := by simp only [farB, decide_eq_true_eq]; omega
    rw [hb]
    clear hb
    go_enter Try.func19, Try.ntmps19
    go_wp2
    go_ret
    exact ⟨rfl, rfl⟩
  by_cases h2 : X < -1125899906842624
  · have hb : farB X Y = true := by simp only [farB, decide_eq_true_eq]; omega
    rw [hb]
    clear hb
    go_enter Try.func19, Try.ntmps19
    go_wp2
    go_ret
    exact ⟨rfl, rfl⟩
  by_cases h3 : 1125899906842624 < Y
  · have hb : farB X Y = true := by simp only [farB, decide_eq_true_eq]; omega
    rw [hb]
    clear hb
    go_enter Try.func19, Try.ntmps19
    go_wp2
    go_ret
    exact ⟨rfl, rfl⟩
  by_cases h4 : Y < -1125899906842624
  · have hb : farB X Y = true := by simp only [farB, decide_eq_true_eq]; omega
    rw [hb]
    clear hb
    go_enter Try.func19, Try.ntmps19
    go_wp2
    go_ret
    exact ⟨rfl, rfl⟩
  · have hb : farB X Y = false := by simp only [farB, decide_eq_false_iff_not]; omega
    rw [hb]
    clear hb
    go_enter Try.func19, Try.ntmps19
    go_wp2
    go_ret
    exact ⟨rfl, rfl⟩

theorem far_same (w : World) (X Y : Int) : Calls Try.prog 19 #[.int .i64 X, .int .i64 Y] w fun e w' => e = .returned (.bool (farB X Y)) ∧ w' = w :=
  (far_any w X Y).mono fun _ _ ⟨h, k⟩ => ⟨h, k.symm⟩

theorem far_of (w : World) (X Y : Int) (r : Bool) (hr : farB X Y = r) : Calls Try.prog 19 #[.int .i64 X, .int .i64 Y] w fun e w' => e = .returned (.bool r) ∧ w' = w := by
  rw [← hr]; exact far_same w X Y

theorem tm4 (v : Int) : (wrap64 (v.tmod 4 + 4)).tmod 4 = v % 4 := by
  have h : v.tmod 4 = v % 4 ∨ v.tmod 4 = v % 4 - 4 := by
    rw [Int.tmod_eq_emod]
    split
    · left; omega
    · right; rfl
  have h0 : 0 ≤ v % 4 := by omega
  have h1 : v % 4 < 4 := by omega
  have hw : wrap64 (v.tmod 4 + 4) = v.tmod 4 + 4 := by unfold wrap64; omega
  have hp : 0 ≤ v.tmod 4 + 4 := by omega
  rw [hw, Int.tmod_eq_emod_of_nonneg hp]
  omega

theorem runit_any (w : World) (v : Int) : Calls Try.prog 14 #[.int .i64 v] w (Ret2 (rotX v 1 0) (rotY v 1 0) w) := by
  have ht := tm4 v
  obtain h | h | h | h : v % 4 = 0 ∨ v % 4 = 1 ∨ v % 4 = 2 ∨ v % 4 = 3 := by omega
  all_goals
    have hx := rotX_mod (p := v) (q := v % 4) 1 0 (by omega)
    have hy := rotY_mod (p := v) (q := v % 4) 1 0 (by omega)
    rw [hx, hy, h]
    rw [h] at ht
    clear hx hy h
    go_enter Try.func14, Try.ntmps14
    go_wp2
    go_ret2
    exact ⟨rfl, rfl⟩

theorem rotX_mul (n v : Int) : n * rotX v 1 0 = rotX v n 0 := by unfold rotX; split <;> (try split) <;> (try split) <;> omega
theorem rotY_mul (n v : Int) : n * rotY v 1 0 = rotY v n 0 := by unfold rotY; split <;> (try split) <;> (try split) <;> omega

/-- A lean of the reference lies in block b. -/
def RAt (w : World) (b : Nat) (X Y : Int) : Prop := w.cell? ⟨b, 0, none⟩ = some (.int .i64 X) ∧ w.cell? ⟨b, 1, none⟩ = some (.int .i64 Y) ∧ w.frozen? ⟨b, 0, none⟩ = false ∧ w.frozen? ⟨b, 1, none⟩ = false

theorem RAt.kept {S : Nat → Prop} {w w' : World} {b : Nat} {X Y : Int} (h : RAt w b X Y) (k : Kept S w w') (hn : ¬ S b) : RAt w' b X Y := by
  obtain ⟨h1, h2, h3, h4⟩ := h
  exact ⟨k.cell h1 hn, k.cell h2 hn, by rw [k.frozen (World.block_lt_of_cell? _ _ h1) hn]; exact h3, by rw [k.frozen (World.block_lt_of_cell? _ _ h2) hn]; exact h4⟩

theorem RAt.lt {w : World} {b : Nat} {X Y : Int} (h : RAt w b X Y) : b < w.heap.size := World.block_lt_of_cell? _ _ h.1

theorem RAt.store {w : World} {b : Nat} {X Y : Int} (h : RAt w b X Y) (U V : Int) : RAt ((w.setCell ⟨b, 0, none⟩ (.int .i64 U)).setCell ⟨b, 1, none⟩ (.int .i64 V)) b U V := by
  obtain ⟨c0, c1, f0, f1⟩ := h
  refine ⟨?_, ?_, ?_, ?_⟩
  · rw [World.cell?_setCell_other _ _ _ _ (by simp)]
    exact World.cell?_setCell_same _ _ _ c0
  · exact World.cell?_setCell_same (u := .int .i64 Y) _ _ _ (by rw [World.cell?_setCell_other _ _ _ _ (by simp)]; exact c1)
  · rw [World.frozen?_setCell, World.frozen?_setCell]; exact f0
  · rw [World.frozen?_setCell, World.frozen?_setCell]; exact f1

def PostR (b : Nat) (v : Value) (X Y : Int) (w : World) (e : Ending) (w' : World) : Prop :=
  e = .returned v ∧ RAt w' b X Y ∧ Kept (· = b) w w' ∧ w'.heap.size = w.heap.size

theorem rput_any (w : World) (b : Nat) (X Y v n : Int) (h : RAt w b X Y) (hs : Small X Y) :
    Calls Try.prog 11 #[.pointer (some ⟨b, 0, none⟩), .int .i64 v, .int .i64 n] w (PostR b (.int .i64 (putE X Y v n)) (putX X Y v n) (putY X Y v n) w) := by
  unfold putE putX putY
  cases hb : bigB n with
  | true =>
    simp only [if_true]
    simp only [bigB, decide_eq_true_eq] at hb
    by_cases h1 : 1048576 < n
    · clear hb
      go_enter Try.func11, Try.ntmps11
      go_wp2
      go_ret
      exact ⟨rfl, h, Kept.refl _ _, rfl⟩
    · have h2 : n < -1048576 := by omega
      clear hb
      go_enter Try.func11, Try.ntmps11
      go_wp2
      go_ret
      exact ⟨rfl, h, Kept.refl _ _, rfl⟩
  | false =>
    simp only [Bool.false_eq_true, if_false]
    simp only [bigB, decide_eq_false_iff_not] at hb
    have h1 : n ≤ 1048576 := by omega
    have h2 : -1048576 ≤ n := by omega
    have hr := rot_small v ⟨h2, h1⟩
    clear hb
    obtain ⟨c0, c1, f0, f1⟩ := h
    have hux := rotX_mul n v
    have huy := rotY_mul n v
    have hw1 : IntKind.i64.wrap (n * rotX v 1 0) = rotX v n 0 := by rw [hux]; exact IntWalk.i64_in _ (by unfold Small at hr; omega)
    have hw2 : IntKind.i64.wrap (n * rotY v 1 0) = rotY v n 0 := by rw [huy]; exact IntWalk.i64_in _ (by unfold Small at hr; omega)
    have hw3 : IntKind.i64.wrap (X + rotX v n 0) = X + rotX v n 0 := IntWalk.i64_in _ (by unfold Small at hr hs; omega)
    have hw4 : IntKind.i64.wrap (Y + rotY v n 0) = Y + rotY v n 0 := IntWalk.i64_in _ (by unfold Small at hr hs; omega)
    clear hux huy
    unfold tkE tkX tkY
    cases hf : farB (X + rotX v n 0) (Y + rotY v n 0) with
    | true =>
      go_enter Try.func11, Try.ntmps11
      go_wp2_with (go_at_call 14; refine (runit_any _ _).mono ?_; rintro e w' ⟨rfl, rfl⟩)
      go_quiet ((go_at_call 19; exact Calls.quiet_of_same (far_of _ _ _ _ hf)))
      go_wp2
      go_ret
      exact ⟨rfl, ⟨c0, c1, f0, f1⟩, (Kept.refl _ _).drewN _, rfl⟩
    | false =>
      go_enter Try.func11, Try.ntmps11
      go_wp2_with (go_at_call 14; refine (runit_any _ _).mono ?_; rintro e w' ⟨rfl, rfl⟩)
      go_quiet ((go_at_call 19; exact Calls.quiet_of_same (far_of _ _ _ _ hf)))
      go_wp2
      go_ret
      exact ⟨rfl, RAt.store (w := w.drewN nq) ⟨c0, c1, f0, f1⟩ _ _, (((Kept.refl (· = b) w).drewN nq).setCell (p := ⟨b, 0, none⟩) (fun _ => rfl) _).setCell (p := ⟨b, 1, none⟩) (fun _ => rfl) _, by simp⟩

theorem rot_sub (q X Y : Int) : rotX q X 0 - rotY q Y 0 = rotX q X Y := by unfold rotX rotY; split <;> (try split) <;> (try split) <;> omega
theorem rot_add (q X Y : Int) : rotY q X 0 + rotX q Y 0 = rotY q X Y := by unfold rotX rotY; split <;> (try split) <;> (try split) <;> omega

def PostS (X Y : Int) (w : World) (e : Ending) (w' : World) : Prop :=
  e = .returned (.agg #[.int .i64 X, .int .i64 Y]) ∧ Kept (fun _ => False) w w'

set_option maxHeartbeats 800000 in
theorem rspun_any (w : World) (b : Nat) (X Y q : Int) (h : RAt w b X Y) (hs : Small X Y) :
    Calls Try.prog 12 #[.pointer (some ⟨b, 0, none⟩), .int .i64 q] w (PostS (rotX q X Y) (rotY q X Y) w) := by
  have s1 : Small (rotX q X 0) (rotY q X 0) := Small.rot (by unfold Small at *; omega) q
  have s2 : Small (rotX q Y 0) (rotY q Y 0) := Small.rot (by unfold Small at *; omega) q
  have s3 : Small (rotX q X Y) (rotY q X Y) := Small.rot hs q
  have w1 : IntKind.i64.wrap (X * rotX q 1 0) = rotX q X 0 := by rw [rotX_mul]; exact IntWalk.i64_in _ (by unfold Small at s1; omega)
  have w2 : IntKind.i64.wrap (Y * rotY q 1 0) = rotY q Y 0 := by rw [rotY_mul]; exact IntWalk.i64_in _ (by unfold Small at s2; omega)
  have w3 : IntKind.i64.wrap (X * rotY q 1 0) = rotY q X 0 := by rw [rotY_mul]; exact IntWalk.i64_in _ (by unfold Small at s1; omega)
  have w4 : IntKind.i64.wrap (Y * rotX q 1 0) = rotX q Y 0 := by rw [rotX_mul]; exact IntWalk.i64_in _ (by unfold Small at s2; omega)
  have w5 : IntKind.i64.wrap (rotX q X 0 - rotY q Y 0) = rotX q X Y := by rw [rot_sub]; exact IntWalk.i64_in _ (by unfold Small at s3; omega)
  have w6 : IntKind.i64.wrap (rotY q X 0 + rotX q Y 0) = rotY q X Y := by rw [rot_add]; exact IntWalk.i64_in _ (by unfold Small at s3; omega)
  have hlt := h.lt
  obtain ⟨c0, c1, f0, f1⟩ := h
  clear s1 s2 s3 hs
  go_enter Try.func12, Try.ntmps12
  go_wp2_with (go_at_call 14; refine (runit_any _ _).mono ?_; rintro e w' ⟨rfl, rfl⟩)
  have d0 : (w.alloc (.cells #[.int .i64 0, .int .i64 0] 36)).cell? ⟨b, 0, none⟩ = some (.int .i64 X) := by rw [World.cell?_alloc_lt _ _ _ hlt]; exact c0
  have d1 : (w.alloc (.cells #[.int .i64 0, .int .i64 0] 36)).cell? ⟨b, 1, none⟩ = some (.int .i64 Y) := by rw [World.cell?_alloc_lt _ _ _ hlt]; exact c1
  have d2 : (w.alloc (.cells #[.int .i64 0, .int .i64 0] 36)).cell? ⟨w.heap.size, 0, none⟩ = some (.int .i64 0) := by simp
  have d3 : (w.alloc (.cells #[.int .i64 0, .int .i64 0] 36)).cell? ⟨w.heap.size, 1, none⟩ = some (.int .i64 0) := by simp
  have d4 : (w.alloc (.cells #[.int .i64 0, .int .i64 0] 36)).frozen? ⟨w.heap.size, 0, none⟩ = false := by simp
  have d5 : (w.alloc (.cells #[.int .i64 0, .int .i64 0] 36)).frozen? ⟨w.heap.size, 1, none⟩ = false := by simp
  have k1 : Kept (fun _ => False) w (w.alloc (.cells #[.int .i64 0, .int .i64 0] 36)) := (Kept.refl _ _).alloc _
  have hlt' : b < w.heap.size := hlt
  generalize w.alloc (.cells #[.int .i64 0, .int .i64 0] 36) = W1 at *
  clear c0 c1 f0 f1
  go_still_tail 27, (by kernel_rfl)
  change wpList _ _ _ _ _ W1.drew
  go_wp2
  have e0 : ((W1.setCell ⟨w.heap.size, 0, none⟩ (.int .i64 (rotX q X Y))).setCell ⟨w.heap.size, 1, none⟩ (.int .i64 (rotY q X Y))).drew.cell? ⟨w.heap.size, 0, none⟩ = some (.int .i64 (rotX q X Y)) := by
    rw [World.cell?_drew, World.cell?_setCell_other _ _ _ _ (by simp)]; exact World.cell?_setCell_same _ _ _ d2
  have e1 : ((W1.setCell ⟨w.heap.size, 0, none⟩ (.int .i64 (rotX q X Y))).setCell ⟨w.heap.size, 1, none⟩ (.int .i64 (rotY q X Y))).drew.cell? ⟨w.heap.size, 1, none⟩ = some (.int .i64 (rotY q X Y)) := by
    rw [World.cell?_drew]; exact World.cell?_setCell_same (u := .int .i64 0) _ _ _ (by rw [World.cell?_setCell_other _ _ _ _ (by simp)]; exact d3)
  have k2 : Kept (fun _ => False) w ((W1.setCell ⟨w.heap.size, 0, none⟩ (.int .i64 (rotX q X Y))).setCell ⟨w.heap.size, 1, none⟩ (.int .i64 (rotY q X Y))).drew :=
    ((k1.setCell (p := ⟨w.heap.size, 0, none⟩) (fun h => absurd h (Nat.lt_irrefl _)) _).setCell (p := ⟨w.heap.size, 1, none⟩) (fun h => absurd h (Nat.lt_irrefl _)) _).drew
  exact bodyPost_ret (v := .agg #[.int .i64 (rotX q X Y), .int .i64 (rotY q X Y)]) (by simp [results, Try.results12, go_sem, e0, e1]) rfl ⟨rfl, k2⟩

end Go.Proofs.Ytbfkbbdjijlffaa
