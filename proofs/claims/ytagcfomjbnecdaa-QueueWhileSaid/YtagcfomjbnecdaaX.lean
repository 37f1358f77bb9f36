/- While's walk. -/
import Derived.Test.YtagcfomjbnecdaaW
import Derived.Deep.LoopGhost
namespace Go.Proofs.Ytagcfomjbnecdaa
open Go.RowKit

set_option maxHeartbeats 4000000 in
theorem while_any (w : World) (c : Nat) (vH : Value) (H : List It) (T : Int) (Q : QM w c vH H T) (hH : Heap H) (K : List It) (R : Rel H T K) (hm : H.length ≤ 200) (b : Int) (bb : Nat) (hb : w.cell? ⟨bb, 0, none⟩ = some (.int .i64 b)) (hbb : ¬ Own c vH bb) :
    Calls Try.prog 15 #[.pointer (some ⟨c, 0, none⟩), .func (.func 16) #[] #[.pointer (some ⟨bb, 0, none⟩)]] w (PostWhile c vH b T (jumps K) w) := by
  have kA : Kept (fun _ => False) w (w.alloc (.cells #[] 27)) := (Kept.refl _ w).alloc _
  have hKl : (jumps K).length ≤ 200 := by rw [jumps_len, ← R.len]; exact hm
  have I0 : WhI w c vH b T (jumps K) K.length (w.alloc (.cells #[] 27)) H vH K [] (.slice (some ⟨w.heap.size, 0, none⟩) 0 0) := by
    refine ⟨Q.kept kA (fun _ _ q => q), hH, R, rfl, World.ownsRow_lit w #[] 0 (Nat.zero_le _) (Nat.zero_le _) rfl, rfl, rfl, rfl, fun j hj => ?_, kA.mono (fun _ _ q => q.elim), by simp [jumps]⟩
    injection hj with hj
    simp only at hj
    exact ⟨by omega, fun e => by have := Q.ownlt e; omega⟩
  obtain ⟨i0, hi, hz0, hz1, hz2⟩ := info_parts Try.info27
  generalize hL : jumps K = L at *
  clear hL
  go_enter Try.func15, Try.ntmps15
  go_wp2
  go_loopg [5] K.length (fun k vO wr => ∃ H' vH' K' O, WhI w c vH b T L k wr H' vH' K' O vO)
  case atStart => exact ⟨_, _, _, _, I0⟩
  case round =>
    clear I0
    obtain ⟨H', vH', K', O, I⟩ := hrel
    have hsm := I.small
    have hrl := I.rel.len
    have hcn := I.cnt
    have hHl : H'.length ≤ 200 := by omega
    have hOl : O.length ≤ 200 := by omega
    clear hrl hcn
    by_cases hK : K' = []
    · have hs : ¬ (jumps K' ≠ [] ∧ (gj (jumps K') (fst (jumps K'))).1 < b) := by rw [hK]; simp [jumps]
      have hH0 : H' = [] := List.eq_nil_of_length_eq_zero (by rw [I.rel.len, hK]; rfl)
      have hpk := peek_nil wr c vH' T (by have := I.q; rw [hH0] at this; exact this)
      clear hH0
      go_wp2_with fail
      refine hpk.mono ?_
      clear hpk
      rintro e u1 ⟨rfl, l1⟩
      have hst := I.stop hs (l1.alloc (.cells #[.int .i64 0, .int .i64 0] 27))
      go_wp2_with fail
      go_ret
      exact hst
    · have hnJ : jumps K' ≠ [] := by simpa [jumps] using hK
      have hneH : H' ≠ [] := fun e => hK (List.eq_nil_of_length_eq_zero (by rw [← I.rel.len, e]; rfl))
      obtain ⟨n, hn⟩ : ∃ n, H'.length = n + 1 := ⟨H'.length - 1, by have := List.length_pos_iff.2 hneH; omega⟩
      have pk := I.rel.peek I.heap hK
      have hpk := peek_some wr c vH' H' T I.q hneH (by omega)
      rw [show (g H' 0).a = (gj (jumps K') (fst (jumps K'))).1 from congrArg Prod.fst pk, show (g H' 0).n = (gj (jumps K') (fst (jumps K'))).2 from congrArg Prod.snd pk] at hpk
      have hbr := I.kept.cell hb hbb
      have hQ := I.q
      have hHP := I.heap
      have hRow := I.row
      have hOO := I.oo
      have hOw := I.own
      have hpp := fun (u : World) (h : QM u c vH' H' T) => pop_some u c vH' H' T h n hn hHP (by omega)
      clear pk
      generalize hy : gj (jumps K') (fst (jumps K')) = y at *
      have HY := Lib.hid hy
      clear hy
      obtain ⟨AO, cO, rfl, _, _⟩ := hRow.shape
      go_wp2_with fail
      refine hpk.mono ?_
      clear hpk
      rintro e u1 ⟨rfl, l1⟩
      have l2 : Kept (fun _ => False) u1 (u1.alloc (.cells #[.int .i64 y.1, .int .i64 y.2] 27)) := (Kept.refl _ u1).alloc _
      have hb2 := heap_alloc_new u1 (.cells #[.int .i64 y.1, .int .i64 y.2] 27)
      have l12 := l1.trans l2
      have hbu := l12.cell hbr (fun q => q)
      have hs1 := l1.size
      have hbl := World.block_lt_of_cell? (a := ⟨bb, 0, none⟩) _ hbu
      by_cases hlt : y.1 < b
      · have hcl := below_any y.1 y.2 b bb _ hbu hbl
        rw [decide_eq_true hlt] at hcl
        go_wp2_with fail
        refine hcl.mono ?_
        clear hcl
        rintro e u3 ⟨rfl, l3⟩
        have l13 := l12.trans l3
        have hb3 := l3.heap hb2 (fun q => q)
        go_wp2_with fail
        refine (hpp u3 (hQ.kept l13 (fun _ _ q => q))).mono ?_
        clear hpp
        rintro e u4 ⟨H2, vH2, rfl, hp2, hH2, Q2, K2, o2⟩
        have hb4 := K2.heap hb3 (fun q => by have := hQ.ownlt q; omega)
        have d0 := cell_of_row u4 _ 0 _ 27 (0, 0) hb4
        have d1 := cell_of_row u4 _ 1 _ 27 (0, 0) hb4
        simp only [List.getElem?_toArray, List.getElem?_cons_zero, List.getElem?_cons_succ] at d0 d1
        have hRow4 : JR u4 (.slice AO O.length cO) O := (hRow.kept l13 (fun _ _ q => q)).kept K2 (fun j hj q => (hOO j hj).2 (by unfold Own at q ⊢; rw [hOw] at q; exact q))
        clear hb2 hb3 hb4 hbu hbr
        go_wp2_with (at_builtin; refine wpList_append_at _ rfl _ _ 30 rfl 27 i0 (.agg #[.int .i64 0, .int .i64 0]) 2 16 Try.underlying30 hi hz0 hz1 hz2 rfl (by decide) (.slice AO O.length cO) O.length (jrow O) rfl (World.ownsRow.alloc hRow4 _) ⟨u4.heap.size, 0, none⟩ 1 1 [.int .i64 y.1, .int .i64 y.2] rfl rfl (World.news_of_block (heap_alloc_new u4 (.cells #[.int .i64 y.1, .int .i64 y.2] 27))) (by simp [Value.oneCell']) (by simp only [maxLen]; omega) (by omega) ?_; intro vO2 w5 r5 g5 n5)
        have r5' : JR w5 vO2 (O ++ [y]) := by
          unfold JR
          rw [jrow_app, List.length_append]
          exact r5
        have kg : Kept (fun j => (Value.slice AO O.length cO).ownBlock = some j) u4 w5 := ((Kept.refl _ u4).alloc _).grown g5 (fun j hj _ => hj)
        have hn5 : ∀ j, vO2.ownBlock = some j → (Value.slice AO O.length cO).ownBlock = some j ∨ u4.heap.size ≤ j := fun j hj => by
          rcases n5 with e | ⟨k', e, hk'⟩
          · exact .inl (by rw [← e]; exact hj)
          · rw [hj] at e
            injection e with e
            have : (u4.alloc (.cells #[.int .i64 y.1, .int .i64 y.2] 27)).heap.size = u4.heap.size + 1 := by simp
            exact .inr (by omega)
        have IN := I.next hK (by rw [HY.out]; omega) l13 hp2 hH2 Q2 K2 o2 (Kept.refl _ u4) (by rw [HY.out]; exact r5') kg hn5
        have hdec : (K'.eraseIdx (fst (jumps K'))).length < K'.length := by
          have := (fst_first hnJ).1
          rw [jumps_len] at this
          rw [List.length_eraseIdx, if_pos this]
          omega
        clear r5 g5 n5 r5' kg hn5 hRow4 K2 Q2 hH2 hp2
        go_wp2_with fail
        go_roundg (K'.eraseIdx (fst (jumps K'))).length
        case measure => (have := I.cnt; omega)
        case rel => exact ⟨_, _, _, _, IN⟩
      · have hcl := below_any y.1 y.2 b bb _ hbu hbl
        rw [decide_eq_false hlt] at hcl
        go_wp2_with fail
        refine hcl.mono ?_
        clear hcl
        rintro e u3 ⟨rfl, l3⟩
        have hst := I.stop (fun q => by have := q.2; rw [HY.out] at this; omega) (l12.trans l3)
        go_wp2_with fail
        go_ret
        exact hst
end Go.Proofs.Ytagcfomjbnecdaa
