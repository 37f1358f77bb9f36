/- live. -/
import Derived.Test.YtagcfomjbnecdaaO
namespace Go.Proofs.Ytagcfomjbnecdaa
open Go.RowKit

theorem Rel.peek {H K : List It} {T : Int} (h : Rel H T K) (hH : Heap H) (hn : K ≠ []) : ((g H 0).a, (g H 0).n) = gj (jumps K) (fst (jumps K)) := by
  have hj : jumps K ≠ [] := by simpa [jumps] using hn
  have h1 := (fst_first hj).1
  rw [jumps_len] at h1
  rw [h.first hH hn, gj_jumps _ _ h1]
  rfl

theorem lit_JS (w : World) (L : List J) (N : Nat → Prop) (hN : ¬ N w.heap.size) : JS (w.alloc (.cells (jrow L).toArray 27)) N (some ⟨w.heap.size, 0, none⟩) L := by
  intro i hi
  obtain ⟨e0, e1⟩ := jrow_get L i hi
  have hb := heap_alloc_new w (.cells (jrow L).toArray 27)
  refine ⟨_, 0, rfl, hN, ?_, ?_⟩
  · rw [Nat.zero_add, cell_of_row _ _ _ _ 27 (0, 0) hb]
    simpa using e0
  · rw [Nat.zero_add, cell_of_row _ _ _ _ 27 (0, 0) hb]
    simpa using e1

def LV : List J := [(2, 1), (1, 5), (1, 2)]
theorem lv_first : fst LV = 1 := by decide
theorem lv_rest : fst (LV.take 1 ++ LV.drop 2) = 1 := by decide

set_option maxHeartbeats 4000000 in
theorem live_any (w : World) : Calls Try.prog 6 #[] w fun e w' => e = .returned (.bool true) ∧ Kept (fun _ => False) w w' := by
  go_enter Try.func6, Try.ntmps6
  go_wp2_with fail
  refine (new_any _).mono ?_
  rintro e w1 ⟨c, rfl, hc, Q1, k1⟩
  go_wp2_with fail
  have hs1 := Q1.lt
  obtain ⟨js, kA⟩ : JS (w1.alloc (.cells #[.int .i64 2, .int .i64 1, .int .i64 1, .int .i64 5, .int .i64 1, .int .i64 2] 27)) (Own c (.slice none 0 0)) (some ⟨w1.heap.size, 0, none⟩) LV ∧ Kept (fun _ => False) w1 (w1.alloc (.cells #[.int .i64 2, .int .i64 1, .int .i64 1, .int .i64 5, .int .i64 1, .int .i64 2] 27)) := by
    refine ⟨lit_JS w1 LV _ ?_, (Kept.refl _ w1).alloc _⟩
    rintro (q | q)
    · omega
    · cases q
  have hH0 : Heap [] := fun j _ h => by simp at h
  refine (push_any _ c _ [] 0 (Q1.kept kA (fun _ _ q => q)) hH0 [] Rel.nil _ 3 LV js (by decide) (by decide)).mono ?_
  rintro e w2 ⟨rfl, H2, vH2, K2, hH2, R2, hj2, Q2, K2', own2⟩
  rw [show jumps [] ++ LV = LV from rfl] at hj2
  have hl2 : H2.length = 2 + 1 := by rw [R2.len, ← jumps_len, hj2]; rfl
  have hn2 : K2 ≠ [] := fun e => by subst e; simp [jumps] at hj2; cases hj2
  have p2 := R2.peek hH2 hn2
  rw [hj2, lv_first] at p2
  have pa : (g H2 0).a = 1 := congrArg Prod.fst p2
  have pn : (g H2 0).n = 5 := congrArg Prod.snd p2
  have hpop := pop_some w2 c vH2 H2 _ Q2 2 hl2 hH2 (by decide)
  unfold PostPop at hpop
  rw [pa, pn] at hpop
  clear pa pn p2
  go_wp2_with fail
  refine hpop.mono ?_
  rintro e w3 ⟨H3, vH3, rfl, hp3, hH3, Q3, K3, o3⟩
  have R3 := R2.pop hH2 hn2 hp3
  have hj3 : jumps (K2.eraseIdx (fst (jumps K2))) = LV.take 1 ++ LV.drop 2 := by rw [jumps_erase, hj2, lv_first]
  have hl3 : H3.length = 2 := by rw [R3.len, ← jumps_len, hj3]; rfl
  have hn3 : K2.eraseIdx (fst (jumps K2)) ≠ [] := fun e => by rw [e] at hj3; cases hj3
  have p3 := R3.peek hH3 hn3
  rw [hj3, lv_rest] at p3
  have pa : (g H3 0).a = 1 := congrArg Prod.fst p3
  have pn : (g H3 0).n = 2 := congrArg Prod.snd p3
  have hne3 : H3 ≠ [] := fun e => by subst e; simp at hl3
  have kB : Kept (fun _ => False) w3 (w3.alloc (.cells #[.int .i64 1, .int .i64 5] 27)) := (Kept.refl _ w3).alloc _
  have Q4 := Q3.kept kB (fun _ _ q => q)
  have hpk := peek_some _ c vH3 H3 _ Q4 hne3 (by omega)
  rw [pa, pn] at hpk
  have hb3 := heap_alloc_new w3 (.cells #[.int .i64 1, .int .i64 5] 27)
  have hs3 : w3.heap.size < (w3.alloc (.cells #[.int .i64 1, .int .i64 5] 27)).heap.size := by simp
  have hl3i : (H3.length : Int) = 2 := by omega
  clear pa pn p3 hpop
  go_wp2_with fail
  generalize w3.alloc (Obj.cells #[Value.int IntKind.i64 1, Value.int IntKind.i64 5] 27) = W3 at *
  refine hpk.mono ?_
  rintro e w4 ⟨rfl, k4⟩
  have hb4 := k4.heap hb3 (fun q => q)
  have hs4 := Nat.lt_of_lt_of_le hs3 k4.size
  have kC : Kept (fun _ => False) w4 (w4.alloc (.cells #[.int .i64 1, .int .i64 2] 27)) := (Kept.refl _ w4).alloc _
  have Q5 := (Q4.kept k4 (fun _ _ q => q)).kept kC (fun _ _ q => q)
  have hlen := len_any _ c vH3 H3 _ Q5
  rw [hl3i] at hlen
  have d0 : w4.cell? ⟨w3.heap.size, 0, none⟩ = some (.int .i64 1) := by rw [cell_of_row w4 _ 0 _ 27 (0, 0) hb4]; rfl
  have d1 : w4.cell? ⟨w3.heap.size, 1, none⟩ = some (.int .i64 5) := by rw [cell_of_row w4 _ 1 _ 27 (0, 0) hb4]; rfl
  have KF : Kept (fun _ => False) w (w4.alloc (.cells #[.int .i64 1, .int .i64 2] 27)) := by
    have z1 := kA.size
    have z2 := K2'.size
    have z3 := kB.size
    have a1 : Kept (fun _ => False) w w2 := (k1.trans kA).trans' K2' (fun _ _ q => q) (fun j hj q => by
      rcases q with q | q
      · omega
      · cases q)
    have a2 : Kept (fun _ => False) w w3 := a1.trans' K3 (fun _ _ q => q) (fun j hj q => by
      rcases own2 j q with q | q
      · rcases q with q | q
        · omega
        · cases q
      · have := k1.size; omega)
    exact ((a2.trans kB).trans k4).trans kC
  clear hpk kB kC kA k4 K3 K2' hb3 hb4 hl3i Q4 Q3 Q2 Q1 js
  go_wp2_with fail
  refine hlen.mono ?_
  rintro e w5 ⟨rfl, rfl⟩
  go_wp2_with fail
  go_ret
  exact ⟨rfl, KF⟩
end Go.Proofs.Ytagcfomjbnecdaa
