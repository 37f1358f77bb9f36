/- The reference's Pop. -/
import Derived.Test.YtagcfomjbnecdaaN
namespace Go.Proofs.Ytagcfomjbnecdaa
open Go.RowKit

theorem jrow_take (H : List J) (n : Nat) : jrow (H.take n) = (jrow H).take (n * 2) := by
  induction H generalizing n with
  | nil => simp [jrow]
  | cons x H ih =>
    cases n with
    | zero => simp [jrow]
    | succ n =>
      have : jrow (x :: H) = [.int .i64 x.1, .int .i64 x.2] ++ jrow H := rfl
      rw [List.take_succ_cons, this, Nat.succ_mul]
      show [_, _] ++ jrow (H.take n) = _
      rw [ih]
      rfl
theorem jrow_drop (H : List J) (n : Nat) : jrow (H.drop n) = (jrow H).drop (n * 2) := by
  induction H generalizing n with
  | nil => simp [jrow]
  | cons x H ih =>
    cases n with
    | zero => simp [jrow]
    | succ n =>
      have : jrow (x :: H) = [.int .i64 x.1, .int .i64 x.2] ++ jrow H := rfl
      rw [List.drop_succ_cons, this, Nat.succ_mul, ih]
      rfl
theorem jrow_one (L : List J) : ∀ u ∈ jrow L, u.oneCell' = true := by
  intro u hu
  obtain ⟨x, _, hx⟩ := List.mem_flatMap.1 hu
  simp only [List.mem_cons, List.not_mem_nil, or_false] at hx
  rcases hx with rfl | rfl <;> rfl
theorem addr_add (b off i : Nat) : (⟨b, off, none⟩ : Addr).add i = ⟨b, off + i, none⟩ := by unfold Addr.add; split <;> simp_all

theorem take_at {w : World} {b n cap : Nat} {L : List J} (h : JR w (.slice (some ⟨b, 0, none⟩) n cap) L) (m : Nat) : ∀ j u, (jrow (L.take m))[j]? = some u → w.cell? ((⟨b, 0, none⟩ : Addr).add j) = some u := by
  intro j u hj
  rw [jrow_take, List.getElem?_take] at hj
  split at hj
  · exact World.ownsRow.cells h (g := b) rfl j u hj
  · cases hj
theorem drop_at {w : World} {b n cap : Nat} {L : List J} (h : JR w (.slice (some ⟨b, 0, none⟩) n cap) L) (m : Nat) : ∀ j u, (jrow (L.drop m))[j]? = some u → w.cell? ((⟨b, m * 2, none⟩ : Addr).add j) = some u := by
  intro j u hj
  rw [jrow_drop, List.getElem?_drop] at hj
  have := World.ownsRow.cells h (g := b) rfl _ u hj
  rw [addr_add] at this ⊢
  rw [Nat.zero_add] at this
  exact this

theorem drop_none {w : World} {ad : Addr} {L : List J} {m : Nat} (h : L.length ≤ m) : ∀ j u, (jrow (L.drop m))[j]? = some u → w.cell? (ad.add j) = some u := by
  intro j u hj
  rw [List.drop_eq_nil_of_le h] at hj
  cases hj

theorem rpop_end {w W4 w6 : World} {r : Nat} {vL v2 u0 u1 : Value} {LL : List J} (row : JR w6 v2 LL) (K6 : Kept (fun _ => False) W4 w6) (j6 : ∀ j, v2.ownBlock = some j → W4.heap.size ≤ j) (q0 : w6.heap[r]? = some (.cells #[vL] 32 (0, 0))) (k04 : Kept (fun _ => False) w W4)
    (hrw : r < w.heap.size) (hp : w.heap.size < W4.heap.size) (d0 : (w6.setCell ⟨r, 0, none⟩ v2).cell? ⟨w.heap.size, 0, none⟩ = some u0) (d1 : (w6.setCell ⟨r, 0, none⟩ v2).cell? ⟨w.heap.size, 1, none⟩ = some u1) (x0 x1 : Value) (W8 : World)
    (hW : W8 = ((w6.setCell ⟨r, 0, none⟩ v2).setCell ⟨w.heap.size, 0, none⟩ x0).setCell ⟨w.heap.size, 1, none⟩ x1) :
    W8.cell? ⟨w.heap.size, 0, none⟩ = some x0 ∧ W8.cell? ⟨w.heap.size, 1, none⟩ = some x1 ∧ RM W8 r v2 LL ∧ Kept (fun k => k = r) w W8 ∧ ∀ j, v2.ownBlock = some j → w.heap.size ≤ j := by
  have k46 := k04.trans K6
  have K7 : Kept (fun k => k = r) w (w6.setCell ⟨r, 0, none⟩ v2) := Kept.setCell (S := fun k => k = r) (k46.mono (fun _ _ q => q.elim)) (p := ⟨r, 0, none⟩) (fun _ => rfl) _
  obtain ⟨e0, e1, K8⟩ := two_set d0 d1 K7 (fun q => absurd q (Nat.lt_irrefl _)) x0 x1 W8 hW
  have nr : v2.ownBlock ≠ some r := row.other q0 (by decide)
  have k1 : Kept (fun k => k = r) w6 (w6.setCell ⟨r, 0, none⟩ v2) := (Kept.refl (fun k => k = r) w6).setCell (p := ⟨r, 0, none⟩) (fun _ => rfl) _
  have k2 : Kept (fun k => k = w.heap.size) (w6.setCell ⟨r, 0, none⟩ v2) W8 := by
    rw [hW]
    exact ((Kept.refl (fun k => k = w.heap.size) _).setCell (p := ⟨w.heap.size, 0, none⟩) (fun _ => rfl) _).setCell (p := ⟨w.heap.size, 1, none⟩) (fun _ => rfl) _
  refine ⟨e0, e1, ⟨k2.heap (blk_set q0 0 v2) (by omega), (row.kept k1 (fun j hj e => nr (by rw [← e]; exact hj))).kept k2 (fun j hj e => by have := j6 j hj; omega)⟩, K8, fun j hj => by have := j6 j hj; omega⟩

/-- The first one has been taken out of L. -/
def PostRPop (r : Nat) (L : List J) (w : World) (e : Ending) (w' : World) : Prop :=
  ∃ vL', e = .returned (.tuple #[.agg #[.int .i64 (gj L (fst L)).1, .int .i64 (gj L (fst L)).2], .bool true]) ∧ RM w' r vL' (L.take (fst L) ++ L.drop (fst L + 1)) ∧ Kept (fun k => k = r) w w' ∧ ∀ j, vL'.ownBlock = some j → w.heap.size ≤ j

theorem rpop_nil (w : World) (r : Nat) (vL : Value) (h : RM w r vL []) :
    Calls Try.prog 11 #[.pointer (some ⟨r, 0, none⟩)] w fun e w' => e = .returned (.tuple #[.agg #[.int .i64 0, .int .i64 0], .bool false]) ∧ Kept (fun _ => False) w w' := by
  have hk := h.kept (S := fun _ => False) ((Kept.refl _ w).alloc (.cells #[.int .i64 0, .int .i64 0] 27)) (fun _ _ q => q)
  have hl := rpeek_nil _ r vL hk
  go_enter Try.func11, Try.ntmps11
  go_wp2_with fail
  refine hl.mono ?_
  rintro e w2 ⟨rfl, k2⟩
  have k02 := ((Kept.refl (fun _ => False) w).alloc (.cells #[.int .i64 0, .int .i64 0] 27)).trans k2
  have hsz : w.heap.size < w2.heap.size := by have := k2.size; simp at this; omega
  have d0 : w2.cell? ⟨w.heap.size, 0, none⟩ = some (.int .i64 0) := k2.cell (by simp) (fun q => q)
  have d1 : w2.cell? ⟨w.heap.size, 1, none⟩ = some (.int .i64 0) := k2.cell (by simp) (fun q => q)
  have hb0 := k2.heap (heap_alloc_new w (.cells #[.int .i64 0, .int .i64 0] 27)) (fun q => q)
  have f0 := frozen_of hb0 0
  have f1 := frozen_of hb0 1
  clear hl hk k2 hb0
  go_wp2_with fail
  obtain ⟨e0, e1, k3⟩ := two_set d0 d1 k02 (fun q => absurd q (Nat.lt_irrefl _)) (.int .i64 0) (.int .i64 0) _ rfl
  have k4 := k3.alloc (.cells #[.int .i64 0, .int .i64 0] 27)
  have hs3 : w.heap.size < ((w2.setCell ⟨w.heap.size, 0, none⟩ (.int .i64 0)).setCell ⟨w.heap.size, 1, none⟩ (.int .i64 0)).heap.size := by simpa using hsz
  generalize (w2.setCell ⟨w.heap.size, 0, none⟩ (.int .i64 0)).setCell ⟨w.heap.size, 1, none⟩ (.int .i64 0) = W at *
  refine bodyPost_ret (v := .tuple #[.agg #[.int .i64 0, .int .i64 0], .bool false]) (by simp [results, Try.results11, go_sem, e0, e1, hs3]) rfl ⟨rfl, k4⟩

set_option maxHeartbeats 4000000 in
theorem rpop_some (w : World) (r : Nat) (vL : Value) (L : List J) (h : RM w r vL L) (hn : L ≠ []) (hm : L.length ≤ 1000) :
    Calls Try.prog 11 #[.pointer (some ⟨r, 0, none⟩)] w (PostRPop r L w) := by
  unfold PostRPop
  have kA : Kept (fun _ => False) w (w.alloc (.cells #[.int .i64 0, .int .i64 0] 27)) := (Kept.refl _ w).alloc _
  have hk := h.kept (S := fun _ => False) kA (fun _ _ q => q)
  have hl := rpeek_some _ r vL L hk hn hm
  have hv : fstI L = (fst L : Nat) := by unfold fstI; rw [if_neg hn]
  have h1 := (fst_first hn).1
  have hrw := h.lt
  go_enter Try.func11, Try.ntmps11
  go_wp2_with fail
  refine hl.mono ?_
  rintro e w2 ⟨rfl, k2⟩
  have k02 := kA.trans k2
  have Q2 := hk.kept k2 (fun _ _ q => q)
  have hsz : w.heap.size < w2.heap.size := by have := k2.size; simp at this; omega
  have hb0 := k2.heap (heap_alloc_new w (.cells #[.int .i64 0, .int .i64 0] 27)) (fun q => q)
  clear hl hk k2 kA
  obtain ⟨b, cap, rfl, hcap, _, _, _⟩ := Q2.row.cells hn
  generalize hx : gj L (fst L) = x at *
  generalize hmm : fst L = m at *
  have kB : Kept (fun _ => False) w2 (w2.alloc (.cells #[.int .i64 x.1, .int .i64 x.2] 27)) := (Kept.refl _ w2).alloc _
  have Q3 := Q2.kept kB (fun _ _ q => q)
  have hb1 := kB.heap hb0 (fun q => q)
  have hb2 := heap_alloc_new w2 (.cells #[.int .i64 x.1, .int .i64 x.2] 27)
  have k03 := k02.trans kB
  have hs23 : w2.heap.size < (w2.alloc (.cells #[.int .i64 x.1, .int .i64 x.2] 27)).heap.size := by simp
  have hf := rfirst_any _ r _ L Q3 (by omega)
  rw [hv] at hf
  go_wp2_with fail
  generalize w2.alloc (Obj.cells #[Value.int IntKind.i64 x.1, Value.int IntKind.i64 x.2] 27) = W3 at *
  refine hf.mono ?_
  rintro e w4 ⟨rfl, n, rfl⟩
  have Q4 : RM (W3.drewN n) r (.slice (some ⟨b, 0, none⟩) L.length cap) L := Q3.kept (drew_kept W3 n) (fun _ _ q => q)
  have hb3 := (drew_kept W3 n).heap hb1 (fun q => q)
  have hb4 := (drew_kept W3 n).heap hb2 (fun q => q)
  have k04 := k03.drewN n
  have hs4 : w2.heap.size < (W3.drewN n).heap.size := hs23
  clear hf Q3 Q2 hb0 hb1 hb2 k03 k02 hs23 h
  generalize W3.drewN n = W4 at *
  have c0 := Q4.c0
  have hrl := Q4.lt
  have hbl : b < W4.heap.size := Q4.ownlt (.inr rfl)
  have hmi : (m : Int) ≤ (cap : Int) := by omega
  have hmi2 : (m : Int) + 1 ≤ (L.length : Int) := by omega
  have hlenT : (jrow (L.take m)).length = m * 2 := by rw [jrow_len, List.length_take]; omega
  have hlenD : (jrow (L.drop (m + 1))).length = (L.length - (m + 1)) * 2 := by rw [jrow_len, List.length_drop]
  have kC : Kept (fun _ => False) W4 (W4.alloc (.cells #[] 27)) := (Kept.refl _ W4).alloc _
  have QC := Q4.kept kC (fun _ _ q => q)
  have own0 : JR (W4.alloc (.cells #[] 27)) (.slice (some ⟨W4.heap.size, 0, none⟩) 0 0) [] := World.ownsRow_lit W4 #[] 0 (Nat.zero_le _) (Nat.zero_le _) rfl
  have T1 := take_at QC.row m
  have O1 := jrow_one (L.take m)
  have O2 := jrow_one (L.drop (m + 1))
  have hmc : 0 < cap := by omega
  obtain ⟨i0, hi, hz0, hz1, hz2⟩ := info_parts Try.info27
  have tok := True.intro
  by_cases hce : cap = m + 1
  · subst hce
    have hlen0 : (jrow (L.drop (m + 1))).length = 0 * 2 := by rw [hlenD]; omega
    go_wp2_with (first
      | (at_builtin; have _t := tok; refine wpList_append_at _ rfl _ _ 30 rfl 27 i0 (.agg #[.int .i64 0, .int .i64 0]) 2 16 Try.underlying30 hi hz0 hz1 hz2 rfl (by decide) _ 0 (jrow []) rfl own0 ⟨b, 0, none⟩ m _ (jrow (L.take m)) rfl hlenT T1 O1 (by simp only [maxLen]; omega) (by omega) ?_; intro v1 w5 r5 g5 n5
         have K5 : Kept (fun _ => False) W4 w5 := kC.grown g5 (fun k hk hlt => by injection hk with hk; simp only at hk; omega)
         have j5 := n5.ge (w := W4) (fun k hk => by injection hk with hk; simp only at hk; omega) kC.size
         have Q5 := Q4.kept K5 (fun _ _ q => q)
         have c05 := Q5.c0
         have T2 : ∀ j u, (jrow (L.drop (m + 1)))[j]? = some u → w5.cell? ((⟨b, 0, Option.none⟩ : Addr).add j) = some u := drop_none (by omega)
         rw [Nat.zero_add] at r5
         clear tok)
      | (at_builtin; refine wpList_append_at _ rfl _ _ 30 rfl 27 i0 (.agg #[.int .i64 0, .int .i64 0]) 2 16 Try.underlying30 hi hz0 hz1 hz2 rfl (by decide) v1 m (jrow [] ++ jrow (L.take m)) rfl r5 ⟨b, 0, none⟩ 0 _ (jrow (L.drop (m + 1))) rfl hlen0 T2 O2 (by simp only [maxLen]; omega) (by omega) ?_; intro v2 w6 r6 g6 n6
         obtain ⟨A2, m2, cap2, hs2⟩ := own_shape r6
         subst hs2
         have K6 : Kept (fun _ => False) W4 w6 := K5.grown g6 (fun k hk hlt => absurd (j5 k hk) (by omega))
         have j6 := n6.ge (w := W4) j5 K5.size
         have q0 := K6.heap Q4.blk (fun q => q)
         have q1 := cell_of_row w6 r 0 _ 32 (0, 0) q0
         have q3 := frozen_of q0 0
         have K7 : Kept (fun k => k = r) w6 (w6.setCell ⟨r, 0, Option.none⟩ (.slice A2 m2 cap2)) := (Kept.refl (fun k => k = r) w6).setCell (p := ⟨r, 0, Option.none⟩) (fun _ => rfl) _
         have e3 := K7.heap (K6.heap hb3 (fun q => q)) (by omega)
         have e4 := K7.heap (K6.heap hb4 (fun q => q)) (by omega)
         have d0 := cell_of_row _ _ 0 _ 27 (0, 0) e3
         have d1 := cell_of_row _ _ 1 _ 27 (0, 0) e3
         have d2 := cell_of_row _ _ 0 _ 27 (0, 0) e4
         have d3 := cell_of_row _ _ 1 _ 27 (0, 0) e4
         have f3 := frozen_of e3 0
         have f4 := frozen_of e3 1
         simp only [List.getElem?_toArray, List.getElem?_cons_zero, List.getElem?_cons_succ] at q1 d0 d1 d2 d3))
    have row : JR w6 (.slice A2 m2 cap2) (L.take m ++ L.drop (m + 1)) := by
      have hl : (L.take m ++ L.drop (m + 1)).length = m + (L.length - (m + 1)) := by rw [List.length_append, List.length_take, List.length_drop]; omega
      unfold JR
      rw [hl, jrow_app]
      have hz : L.length - (m + 1) = 0 := by omega
      rw [hz]
      exact r6
    obtain ⟨z0, z1, z2, z3, z4⟩ := rpop_end row K6 j6 q0 k04 hrw (Nat.lt_trans hsz hs4) d0 d1 (.int .i64 x.1) (.int .i64 x.2) _ rfl
    refine bodyPost_ret (v := .tuple #[.agg #[.int .i64 x.1, .int .i64 x.2], .bool true]) (by simp [results, Try.results11, go_sem, z0, z1]) rfl ⟨_, by rw [hmm, hx], by rw [hmm]; exact z2, z3, z4⟩
  · go_wp2_with (first
      | (at_builtin; have _t := tok; refine wpList_append_at _ rfl _ _ 30 rfl 27 i0 (.agg #[.int .i64 0, .int .i64 0]) 2 16 Try.underlying30 hi hz0 hz1 hz2 rfl (by decide) _ 0 (jrow []) rfl own0 ⟨b, 0, none⟩ m _ (jrow (L.take m)) rfl hlenT T1 O1 (by simp only [maxLen]; omega) (by omega) ?_; intro v1 w5 r5 g5 n5
         have K5 : Kept (fun _ => False) W4 w5 := kC.grown g5 (fun k hk hlt => by injection hk with hk; simp only at hk; omega)
         have j5 := n5.ge (w := W4) (fun k hk => by injection hk with hk; simp only at hk; omega) kC.size
         have Q5 := Q4.kept K5 (fun _ _ q => q)
         have c05 := Q5.c0
         have T2 := drop_at Q5.row (m + 1)
         rw [Nat.zero_add] at r5
         clear tok)
      | (at_builtin; refine wpList_append_at _ rfl _ _ 30 rfl 27 i0 (.agg #[.int .i64 0, .int .i64 0]) 2 16 Try.underlying30 hi hz0 hz1 hz2 rfl (by decide) v1 m (jrow [] ++ jrow (L.take m)) rfl r5 ⟨b, (m + 1) * 2, none⟩ (L.length - (m + 1)) _ (jrow (L.drop (m + 1))) rfl hlenD T2 O2 (by simp only [maxLen]; omega) (by omega) ?_; intro v2 w6 r6 g6 n6
         obtain ⟨A2, m2, cap2, hs2⟩ := own_shape r6
         subst hs2
         have K6 : Kept (fun _ => False) W4 w6 := K5.grown g6 (fun k hk hlt => absurd (j5 k hk) (by omega))
         have j6 := n6.ge (w := W4) j5 K5.size
         have q0 := K6.heap Q4.blk (fun q => q)
         have q1 := cell_of_row w6 r 0 _ 32 (0, 0) q0
         have q3 := frozen_of q0 0
         have K7 : Kept (fun k => k = r) w6 (w6.setCell ⟨r, 0, Option.none⟩ (.slice A2 m2 cap2)) := (Kept.refl (fun k => k = r) w6).setCell (p := ⟨r, 0, Option.none⟩) (fun _ => rfl) _
         have e3 := K7.heap (K6.heap hb3 (fun q => q)) (by omega)
         have e4 := K7.heap (K6.heap hb4 (fun q => q)) (by omega)
         have d0 := cell_of_row _ _ 0 _ 27 (0, 0) e3
         have d1 := cell_of_row _ _ 1 _ 27 (0, 0) e3
         have d2 := cell_of_row _ _ 0 _ 27 (0, 0) e4
         have d3 := cell_of_row _ _ 1 _ 27 (0, 0) e4
         have f3 := frozen_of e3 0
         have f4 := frozen_of e3 1
         simp only [List.getElem?_toArray, List.getElem?_cons_zero, List.getElem?_cons_succ] at q1 d0 d1 d2 d3))
    have row : JR w6 (.slice A2 m2 cap2) (L.take m ++ L.drop (m + 1)) := by
      have hl : (L.take m ++ L.drop (m + 1)).length = m + (L.length - (m + 1)) := by rw [List.length_append, List.length_take, List.length_drop]; omega
      unfold JR
      rw [hl, jrow_app]
      exact r6
    obtain ⟨z0, z1, z2, z3, z4⟩ := rpop_end row K6 j6 q0 k04 hrw (Nat.lt_trans hsz hs4) d0 d1 (.int .i64 x.1) (.int .i64 x.2) _ rfl
    refine bodyPost_ret (v := .tuple #[.agg #[.int .i64 x.1, .int .i64 x.2], .bool true]) (by simp [results, Try.results11, go_sem, z0, z1]) rfl ⟨_, by rw [hmm, hx], by rw [hmm]; exact z2, z3, z4⟩
end Go.Proofs.Ytagcfomjbnecdaa
