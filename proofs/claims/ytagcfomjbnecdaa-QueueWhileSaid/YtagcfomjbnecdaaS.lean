/- QueueDoes' walk. Printed by gen/queueS.py. -/
import Derived.Test.YtagcfomjbnecdaaQ
namespace Go.Proofs.Ytagcfomjbnecdaa
open Go.RowKit

theorem drew_keptW (w : World) (n : Nat) : Kept (fun _ => False) w (w.drewN n) := (Kept.refl _ w).drewN n

theorem Two.start {w w1 : World} {c : Nat} (hc : w.heap.size ≤ c) (Q : QM w1 c (.slice none 0 0) [] 0) (k : Kept (fun _ => False) w w1) :
    Two w c w1.heap.size (w1.alloc (.cells #[.slice none 0 0] 32)) 0 [] (.slice none 0 0) [] 0 (.slice none 0 0) := by
  have hl := Q.lt
  have hs := k.size
  have kA : Kept (fun _ => False) w1 (w1.alloc (.cells #[.slice none 0 0] 32)) := (Kept.refl _ w1).alloc _
  refine ⟨Q.kept kA (fun _ _ q => q), fun j _ h => by simp at h, Rel.nil, ⟨heap_alloc_new w1 _, JR.ofNil _⟩, ?_, ?_, ?_, k.trans kA, by simp, by omega, by omega⟩
  · rintro j (q | q)
    · omega
    · cases q
  · rintro j (q | q)
    · omega
    · cases q
  · rintro j (q | q) (r | r)
    · omega
    · cases r
    · cases q
    · cases q

set_option maxRecDepth 100000 in
set_option maxHeartbeats 8000000 in
theorem does_short (w : World) (A : Option Addr) (cap : Nat) (P : List (Int × J)) (h : OpsR w A P) (hm : P.length ≤ 200) :
    Calls Try.prog 3 #[.slice A P.length cap] w fun e w' => e = .returned (.bool true) ∧ Kept (fun _ => False) w w' := by
  have hmi : ¬ (200 : Int) < (P.length : Int) := by omega
  obtain ⟨i0, hi, hz0, hz1, hz2⟩ := info_parts Try.info27
  go_enter Try.func3, Try.ntmps3
  go_wp2_with fail
  refine (new_any _).mono ?_
  rintro e w1 ⟨c, rfl, hc, Q1, k1⟩
  have hI0 := Two.start hc Q1 k1
  generalize hr : w1.heap.size = r at *
  clear Q1 k1 hc
  go_wp2_with fail
  clear hr
  go_loopw [5] (fun i wr => ∃ (k : Nat) (H : List It) (vH : Value) (K : List It) (T : Int) (vL : Value), k ≤ P.length ∧ i = .int .i64 k ∧ Two w c r wr k H vH K T vL) (fun i _ => P.length - (intOf i).toNat)
  case atStart => exact ⟨0, _, _, _, _, _, Nat.zero_le _, rfl, hI0⟩
  case round =>
    clear hI0
    obtain ⟨k, H, vH, K, T, vL, hk, rfl, I⟩ := hrel
    by_cases hlt : k < P.length
    · obtain ⟨x, hx⟩ : ∃ x, P[k]? = some x := ⟨P[k], List.getElem?_eq_getElem hlt⟩
      obtain ⟨b, off, rfl, y0, y1, y2⟩ := h k x hx
      have x0 := I.kept.cell y0 (fun q => q)
      have x1 := I.kept.cell y1 (fun q => q)
      have x2 := I.kept.cell y2 (fun q => q)
      have hsm := I.small
      by_cases h0 : x.1 = 0
      · have h0b : (x.1 == 0) = true := by simpa using h0
        have kA : Kept (fun _ => False) wr (wr.alloc (.cells #[.int .i64 x.2.1, .int .i64 x.2.2] 27)) := (Kept.refl _ wr).alloc _
        have js : JS (wr.alloc (.cells #[.int .i64 x.2.1, .int .i64 x.2.2] 27)) (Own c vH) (some ⟨wr.heap.size, 0, none⟩) [x.2] := lit_JS wr [x.2] _ (fun q => by have := I.q.ownlt q; omega)
        have hpush := push_any _ c vH H T (I.q.kept kA (fun _ _ q => q)) I.heap K I.rel (some ⟨wr.heap.size, 0, none⟩) 1 [x.2] js (by simp; omega) ⟨I.t0, by have := I.t1; omega⟩
        have hsJ : (jumps K).length ≤ 200 := by rw [jumps_len, ← I.rel.len]; omega
        clear js
        go_wp2_with fail
        refine hpush.mono ?_
        clear hpush
        rintro e w2 ⟨rfl, H2, vH2, K2, hH2, R2, hj2, Q2, K2', own2⟩
        have e1 : T + (([x.2] : List J).length : Int) = T + 1 := by simp
        rw [e1] at R2 Q2
        have RM2 := (I.ref.kept kA (fun _ _ q => q)).kept K2' (fun j hj q => I.dis j q hj)
        have KW := (I.kept.trans kA).trans' K2' (fun _ _ q => q) (fun j hj q => by have := I.oc j q; omega)
        have v1 := KW.cell y1 (fun q => q)
        have v2 := KW.cell y2 (fun q => q)
        have cr0 := RM2.c0
        have hrl := RM2.lt
        have hbl := World.block_lt_of_cell? (a := ⟨b, off + k * 3 + 1, none⟩) w2 v1
        have hne := RM2.row.other RM2.blk (by decide)
        clear x0 x1 x2 e1
        go_wp2_with fail
        go_region_law ((refine step_append_at _ rfl _ _ 30 (by rfl) 27 i0 (.agg #[.int .i64 0, .int .i64 0]) 2 16 Try.underlying30 hi hz0 hz1 hz2 rfl (by decide) vL (jumps K).length (jrow (jumps K)) (by rfl) (World.ownsRow.alloc RM2.row _) ⟨w2.heap.size, 0, none⟩ 1 1 [.int .i64 x.2.1, .int .i64 x.2.2] (by rfl) rfl (World.news_of_block (heap_alloc_new w2 _)) (by simp [Value.oneCell']) (by simp only [maxLen]; omega) (by omega) ?_; intro vL2 w3 r3 g3 n3; obtain ⟨A2, m2, cap2, hs2⟩ := own_shape r3; subst hs2; have k0 : Kept (fun j => vL.ownBlock = some j) w2 w3 := (((Kept.refl _ w2).alloc _).drew).grown g3 (fun j hj _ => hj); have q0 := k0.heap RM2.blk hne; have q1 : w3.cell? ⟨r, 0, none⟩ = some vL := (by rw [cell_of_row w3 r 0 _ 32 (0, 0) q0]; rfl); have q3 := frozen_of q0 0))
        all_goals
          have r3' : JR w3 (.slice A2 m2 cap2) (jumps K ++ [x.2]) := by
            unfold JR
            rw [jrow_app, List.length_append]
            exact r3
          have hm2 : m2 = (jumps K2).length := by
            obtain ⟨_, _, hAL, _⟩ := r3'.shape
            injection hAL with _ e _
            rw [e, hj2]
          subst hm2
          obtain ⟨s1, s2, s3⟩ := (RM2.kept ((Kept.refl (fun _ => False) w2).drew) (fun _ _ q => q)).push (.cells #[.int .i64 x.2.1, .int .i64 x.2.2] 27) r3' g3 n3
          have I2 := I.push kA hH2 R2 hj2 Q2 K2' own2 s1 (((Kept.refl _ w2).drew).trans s2) s3
          have hnK : K2 ≠ [] := fun e => by rw [e] at hj2; have := congrArg List.length hj2; simp [jumps] at this
          have hW : ∃ W, W = w3.setCell ⟨r, 0, none⟩ (.slice A2 (jumps K2).length cap2) := ⟨_, rfl⟩
          clear s1 s2 s3 r3 r3' g3 n3 k0 q0 q1 q3 RM2 KW K2' Q2 R2 hH2 hj2 own2 v1 v2 cr0 kA I
          have hneH := I2.some_ hnK
          have hsmH := I2.small
          have hnJ : jumps K2 ≠ [] := by simpa [jumps] using hnK
          have hleq : H2.length = (jumps K2).length := by rw [I2.rel.len, jumps_len]
          have pk := I2.rel.peek I2.heap hnK
          have hpk := peek_some _ c vH2 H2 _ I2.q hneH (by omega)
          rw [show (g H2 0).a = (gj (jumps K2) (fst (jumps K2))).1 from congrArg Prod.fst pk, show (g H2 0).n = (gj (jumps K2) (fst (jumps K2))).2 from congrArg Prod.snd pk] at hpk
          clear pk
          go_wp2_with fail
          refine hpk.mono ?_
          clear hpk
          rintro e u1 ⟨rfl, l1⟩
          have rpk := fun (u : World) (h : RM u r (.slice A2 (jumps K2).length cap2) (jumps K2)) => rpeek_some u r (.slice A2 (jumps K2).length cap2) (jumps K2) h hnJ (by omega)
          have hlenF := fun (u : World) (h : QM u c vH2 H2 (T + 1)) => len_any u c vH2 H2 (T + 1) h
          rw [hleq] at hlenF
          have J1 := I2.kept2 l1
          have hsmJ : (jumps K2).length ≤ (k + 1) := by omega
          clear hleq hneH
          generalize gj (jumps K2) (fst (jumps K2)) = y at *
          have l2 : Kept (fun _ => False) u1 (u1.alloc (.cells #[.int .i64 y.1, .int .i64 y.2] 27)) := (Kept.refl _ u1).alloc _
          have J2 := J1.kept2 l2
          have b2 := heap_alloc_new u1 (.cells #[.int .i64 y.1, .int .i64 y.2] 27)
          go_wp2_with fail
          refine (rpk _ J2.ref).mono ?_
          clear rpk
          rintro e u3 ⟨rfl, l3⟩
          have J3 := J2.kept2 l3
          have b3 := l3.heap b2 (fun q => q)
          have l4 : Kept (fun _ => False) u3 (u3.alloc (.cells #[.int .i64 y.1, .int .i64 y.2] 27)) := (Kept.refl _ u3).alloc _
          have J4 := J3.kept2 l4
          have b4 := l4.heap b3 (fun q => q)
          have b5 := heap_alloc_new u3 (.cells #[.int .i64 y.1, .int .i64 y.2] 27)
          go_wp2_with fail
          generalize u3.alloc (Obj.cells #[Value.int IntKind.i64 y.1, Value.int IntKind.i64 y.2] 27) = W9 at *
          have z0 := cell_of_row W9 _ 0 _ 27 (0, 0) b4
          have z1 := cell_of_row W9 _ 1 _ 27 (0, 0) b4
          have z2 := cell_of_row W9 _ 0 _ 27 (0, 0) b5
          have z3 := cell_of_row W9 _ 1 _ 27 (0, 0) b5
          simp only [List.getElem?_toArray, List.getElem?_cons_zero, List.getElem?_cons_succ] at z0 z1 z2 z3
          have cr := J4.ref.c0
          have hlen := fun n => hlenF (W9.drewN n) (J4.q.drewN n)
          clear hlenF b2 b3 b4 b5 J1 J2 J3 l1 l2 l3 l4
          generalize hgen : (jumps K2).length = nJ at *
          go_quiet ((go_at_call 14; exact Calls.quiet_of_same (hlen _)))
          go_wp2_with fail
          go_roundw
          case rel => exact ⟨k + 1, _, _, _, _, _, by omega, by go_num, (J4.more (by omega)).kept2 (drew_keptW _ _)⟩
          case measure => simp [intOf]; omega
      · have h0b : (x.1 == 0) = false := by simpa using h0
        by_cases hK : K = []
        · subst hK
          obtain rfl := I.empty
          obtain ⟨AL, cL, rfl, _, _⟩ := I.ref.row.shape
          have hpop := pop_nil wr c vH T I.q
          clear x1 x2
          go_wp2_with fail
          refine hpop.mono ?_
          clear hpop
          rintro e w2 ⟨rfl, k2⟩
          have I2 := I.kept2 k2
          have kB : Kept (fun _ => False) w2 (w2.alloc (.cells #[.int .i64 0, .int .i64 0] 27)) := (Kept.refl _ w2).alloc _
          have I3 := I2.kept2 kB
          have hb3 := heap_alloc_new w2 (.cells #[.int .i64 0, .int .i64 0] 27)
          have hrp := rpop_nil _ r _ I3.ref
          go_wp2_with fail
          refine hrp.mono ?_
          clear hrp
          rintro e w4 ⟨rfl, k4⟩
          have I4 := I3.kept2 k4
          have hb4 := k4.heap hb3 (fun q => q)
          have d0 := cell_of_row w4 _ 0 _ 27 (0, 0) hb4
          have d1 := cell_of_row w4 _ 1 _ 27 (0, 0) hb4
          simp only [List.getElem?_toArray, List.getElem?_cons_zero, List.getElem?_cons_succ] at d0 d1
          have hs4 : w2.heap.size < w4.heap.size := by have := k4.size; simp at this; omega
          have kC : Kept (fun _ => False) w4 (w4.alloc (.cells #[.int .i64 0, .int .i64 0] 27)) := (Kept.refl _ w4).alloc _
          have I5 := I4.kept2 kC
          clear I I2 I3 I4 k2 kB k4 kC hb3 hb4
          go_wp2_with fail

          have hpk := peek_nil _ c _ _ I5.q
          go_wp2_with fail
          refine hpk.mono ?_
          clear hpk
          rintro e u1 ⟨rfl, l1⟩
          have rpk := fun (u : World) (h : RM u r (.slice AL (jumps []).length cL) []) => rpeek_nil u r (.slice AL (jumps []).length cL) h
          have hlenF : ∀ (u : World), QM u c vH [] T → Calls Try.prog 14 #[.pointer (some ⟨c, 0, none⟩)] u fun e w' => e = .returned (.int .i64 0) ∧ w' = u := fun u h => len_any u c vH [] T h
          have J1 := I5.kept2 l1
          have l2 : Kept (fun _ => False) u1 (u1.alloc (.cells #[.int .i64 0, .int .i64 0] 27)) := (Kept.refl _ u1).alloc _
          have J2 := J1.kept2 l2
          have b2 := heap_alloc_new u1 (.cells #[.int .i64 0, .int .i64 0] 27)
          go_wp2_with fail
          refine (rpk _ J2.ref).mono ?_
          clear rpk
          rintro e u3 ⟨rfl, l3⟩
          have J3 := J2.kept2 l3
          have b3 := l3.heap b2 (fun q => q)
          have l4 : Kept (fun _ => False) u3 (u3.alloc (.cells #[.int .i64 0, .int .i64 0] 27)) := (Kept.refl _ u3).alloc _
          have J4 := J3.kept2 l4
          have b4 := l4.heap b3 (fun q => q)
          have b5 := heap_alloc_new u3 (.cells #[.int .i64 0, .int .i64 0] 27)
          go_wp2_with fail
          generalize u3.alloc (Obj.cells #[Value.int IntKind.i64 0, Value.int IntKind.i64 0] 27) = W9 at *
          have z0 := cell_of_row W9 _ 0 _ 27 (0, 0) b4
          have z1 := cell_of_row W9 _ 1 _ 27 (0, 0) b4
          have z2 := cell_of_row W9 _ 0 _ 27 (0, 0) b5
          have z3 := cell_of_row W9 _ 1 _ 27 (0, 0) b5
          simp only [List.getElem?_toArray, List.getElem?_cons_zero, List.getElem?_cons_succ] at z0 z1 z2 z3
          have cr := J4.ref.c0
          have hlen := fun n => hlenF (W9.drewN n) (J4.q.drewN n)
          clear hlenF b2 b3 b4 b5 J1 J2 J3 l1 l2 l3 l4

          go_quiet ((go_at_call 14; exact Calls.quiet_of_same (hlen _)))
          go_wp2_with fail
          go_roundw
          case rel => exact ⟨k + 1, _, _, _, _, _, by omega, by go_num, (J4.more (by omega)).kept2 (drew_keptW _ _)⟩
          case measure => simp [intOf]; omega
        · have hnJ : jumps K ≠ [] := by simpa [jumps] using hK
          have hneH := I.some_ hK
          obtain ⟨n, hn⟩ : ∃ n, H.length = n + 1 := ⟨H.length - 1, by have := List.length_pos_iff.2 hneH; omega⟩
          have hsJ : (jumps K).length ≤ 200 := by rw [jumps_len, ← I.rel.len]; omega
          have pk := I.rel.peek I.heap hK
          have hpop := pop_some wr c vH H T I.q n hn I.heap (by omega)
          unfold PostPop at hpop
          rw [show (g H 0).a = (gj (jumps K) (fst (jumps K))).1 from congrArg Prod.fst pk, show (g H 0).n = (gj (jumps K) (fst (jumps K))).2 from congrArg Prod.snd pk] at hpop
          have rpp := fun (u : World) (h : RM u r vL (jumps K)) => rpop_some u r vL (jumps K) h hnJ (by omega)
          unfold PostRPop at rpp
          generalize gj (jumps K) (fst (jumps K)) = y at *
          clear x1 x2 pk
          go_wp2_with fail
          refine hpop.mono ?_
          clear hpop
          rintro e w2 ⟨H2, vH2, rfl, hp2, hH2, Q2, K2', o2⟩
          have kB : Kept (fun _ => False) w2 (w2.alloc (.cells #[.int .i64 y.1, .int .i64 y.2] 27)) := (Kept.refl _ w2).alloc _
          have RM3 := (I.ref.kept K2' (fun j hj q => I.dis j q hj)).kept kB (fun _ _ q => q)
          have hb3 := heap_alloc_new w2 (.cells #[.int .i64 y.1, .int .i64 y.2] 27)
          have hrw := RM3.lt
          have hrw2 : r < w2.heap.size := (I.ref.kept K2' (fun j hj q => I.dis j q hj)).lt
          go_wp2_with fail
          refine (rpp _ RM3).mono ?_
          clear rpp
          rintro e w4 ⟨vL2, rfl, g1, g2, g3⟩
          have I4 := I.pop hK hp2 hH2 Q2 K2' o2 kB g1 g2 g3
          obtain ⟨AL, cL, rfl, _, _⟩ := g1.row.shape
          rw [← jumps_erase] at I4
          have hb4 := g2.heap hb3 (by omega)
          have d0 := cell_of_row w4 _ 0 _ 27 (0, 0) hb4
          have d1 := cell_of_row w4 _ 1 _ 27 (0, 0) hb4
          simp only [List.getElem?_toArray, List.getElem?_cons_zero, List.getElem?_cons_succ] at d0 d1
          have hs4 : w2.heap.size < w4.heap.size := by have := g2.size; simp at this; omega
          have kC : Kept (fun _ => False) w4 (w4.alloc (.cells #[.int .i64 y.1, .int .i64 y.2] 27)) := (Kept.refl _ w4).alloc _
          have I5 := I4.kept2 kC
          clear I I4 RM3 K2' Q2 hH2 o2 g1 g2 g3 kB kC hb3 hb4 hp2 hn hnJ hneH hsJ
          generalize K.eraseIdx (fst (jumps K)) = K2 at *
          go_wp2_with fail
          clear d0 d1
          by_cases hK2 : K2 = []
          · subst hK2
            obtain rfl := I5.empty
            have hpk := peek_nil _ c _ _ I5.q
            go_wp2_with fail
            refine hpk.mono ?_
            clear hpk
            rintro e u1 ⟨rfl, l1⟩
            have rpk := fun (u : World) (h : RM u r (.slice AL (jumps []).length cL) []) => rpeek_nil u r (.slice AL (jumps []).length cL) h
            have hlenF : ∀ (u : World), QM u c vH2 [] T → Calls Try.prog 14 #[.pointer (some ⟨c, 0, none⟩)] u fun e w' => e = .returned (.int .i64 0) ∧ w' = u := fun u h => len_any u c vH2 [] T h
            have J1 := I5.kept2 l1
            have l2 : Kept (fun _ => False) u1 (u1.alloc (.cells #[.int .i64 0, .int .i64 0] 27)) := (Kept.refl _ u1).alloc _
            have J2 := J1.kept2 l2
            have b2 := heap_alloc_new u1 (.cells #[.int .i64 0, .int .i64 0] 27)
            go_wp2_with fail
            refine (rpk _ J2.ref).mono ?_
            clear rpk
            rintro e u3 ⟨rfl, l3⟩
            have J3 := J2.kept2 l3
            have b3 := l3.heap b2 (fun q => q)
            have l4 : Kept (fun _ => False) u3 (u3.alloc (.cells #[.int .i64 0, .int .i64 0] 27)) := (Kept.refl _ u3).alloc _
            have J4 := J3.kept2 l4
            have b4 := l4.heap b3 (fun q => q)
            have b5 := heap_alloc_new u3 (.cells #[.int .i64 0, .int .i64 0] 27)
            go_wp2_with fail
            generalize u3.alloc (Obj.cells #[Value.int IntKind.i64 0, Value.int IntKind.i64 0] 27) = W9 at *
            have z0 := cell_of_row W9 _ 0 _ 27 (0, 0) b4
            have z1 := cell_of_row W9 _ 1 _ 27 (0, 0) b4
            have z2 := cell_of_row W9 _ 0 _ 27 (0, 0) b5
            have z3 := cell_of_row W9 _ 1 _ 27 (0, 0) b5
            simp only [List.getElem?_toArray, List.getElem?_cons_zero, List.getElem?_cons_succ] at z0 z1 z2 z3
            have cr := J4.ref.c0
            have hlen := fun n => hlenF (W9.drewN n) (J4.q.drewN n)
            clear hlenF b2 b3 b4 b5 J1 J2 J3 l1 l2 l3 l4

            go_quiet ((go_at_call 14; exact Calls.quiet_of_same (hlen _)))
            go_wp2_with fail
            go_roundw
            case rel => exact ⟨k + 1, _, _, _, _, _, by omega, by go_num, (J4.more (by omega)).kept2 (drew_keptW _ _)⟩
            case measure => simp [intOf]; omega
          · have hneH := I5.some_ hK2
            have hsmH := I5.small
            have hnJ : jumps K2 ≠ [] := by simpa [jumps] using hK2
            have hleq : H2.length = (jumps K2).length := by rw [I5.rel.len, jumps_len]
            have pk := I5.rel.peek I5.heap hK2
            have hpk := peek_some _ c vH2 H2 _ I5.q hneH (by omega)
            rw [show (g H2 0).a = (gj (jumps K2) (fst (jumps K2))).1 from congrArg Prod.fst pk, show (g H2 0).n = (gj (jumps K2) (fst (jumps K2))).2 from congrArg Prod.snd pk] at hpk
            clear pk
            go_wp2_with fail
            refine hpk.mono ?_
            clear hpk
            rintro e u1 ⟨rfl, l1⟩
            have rpk := fun (u : World) (h : RM u r (.slice AL (jumps K2).length cL) (jumps K2)) => rpeek_some u r (.slice AL (jumps K2).length cL) (jumps K2) h hnJ (by omega)
            have hlenF := fun (u : World) (h : QM u c vH2 H2 T) => len_any u c vH2 H2 T h
            rw [hleq] at hlenF
            have J1 := I5.kept2 l1
            have hsmJ : (jumps K2).length ≤ k := by omega
            clear hleq hneH
            generalize gj (jumps K2) (fst (jumps K2)) = z at *
            have l2 : Kept (fun _ => False) u1 (u1.alloc (.cells #[.int .i64 z.1, .int .i64 z.2] 27)) := (Kept.refl _ u1).alloc _
            have J2 := J1.kept2 l2
            have b2 := heap_alloc_new u1 (.cells #[.int .i64 z.1, .int .i64 z.2] 27)
            go_wp2_with fail
            refine (rpk _ J2.ref).mono ?_
            clear rpk
            rintro e u3 ⟨rfl, l3⟩
            have J3 := J2.kept2 l3
            have b3 := l3.heap b2 (fun q => q)
            have l4 : Kept (fun _ => False) u3 (u3.alloc (.cells #[.int .i64 z.1, .int .i64 z.2] 27)) := (Kept.refl _ u3).alloc _
            have J4 := J3.kept2 l4
            have b4 := l4.heap b3 (fun q => q)
            have b5 := heap_alloc_new u3 (.cells #[.int .i64 z.1, .int .i64 z.2] 27)
            go_wp2_with fail
            generalize u3.alloc (Obj.cells #[Value.int IntKind.i64 z.1, Value.int IntKind.i64 z.2] 27) = W9 at *
            have z0 := cell_of_row W9 _ 0 _ 27 (0, 0) b4
            have z1 := cell_of_row W9 _ 1 _ 27 (0, 0) b4
            have z2 := cell_of_row W9 _ 0 _ 27 (0, 0) b5
            have z3 := cell_of_row W9 _ 1 _ 27 (0, 0) b5
            simp only [List.getElem?_toArray, List.getElem?_cons_zero, List.getElem?_cons_succ] at z0 z1 z2 z3
            have cr := J4.ref.c0
            have hlen := fun n => hlenF (W9.drewN n) (J4.q.drewN n)
            clear hlenF b2 b3 b4 b5 J1 J2 J3 l1 l2 l3 l4
            generalize hgen : (jumps K2).length = nJ at *
            go_quiet ((go_at_call 14; exact Calls.quiet_of_same (hlen _)))
            go_wp2_with fail
            go_roundw
            case rel => exact ⟨k + 1, _, _, _, _, _, by omega, by go_num, (J4.more (by omega)).kept2 (drew_keptW _ _)⟩
            case measure => simp [intOf]; omega
    · go_wp2_with fail
      refine (live_any _).mono ?_
      rintro e w2 ⟨rfl, k2⟩
      go_wp2_with fail
      go_ret
      exact ⟨rfl, I.kept.trans k2⟩
end Go.Proofs.Ytagcfomjbnecdaa
