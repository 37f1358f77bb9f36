/- QueueWhile's walk. Printed by gen/queueY.py. -/
import Derived.Test.YtagcfomjbnecdaaX
namespace Go.Proofs.Ytagcfomjbnecdaa
open Go.RowKit

theorem JS.news {w : World} {N : Nat → Prop} {ad : Addr} {L : List J} (h : JS w N (some ad) L) : ∀ j u, (jrow L)[j]? = some u → w.cell? (ad.add j) = some u := by
  intro j u hj
  have hl : j < L.length * 2 := by
    have := (List.getElem?_eq_some_iff.1 hj).1
    rw [jrow_len] at this
    exact this
  obtain ⟨b, off, e, _, c0, c1⟩ := h (j / 2) (by omega)
  obtain ⟨g0, g1⟩ := jrow_get L (j / 2) (by omega)
  injection e with e
  subst e
  rw [addr_add]
  rcases Nat.mod_two_eq_zero_or_one j with q | q
  · have ej : j = j / 2 * 2 := by omega
    rw [← ej] at g0 c0
    rw [hj] at g0
    injection g0 with g0
    rw [g0]
    exact c0
  · have ej : j = j / 2 * 2 + 1 := by omega
    rw [← ej] at g1
    rw [Nat.add_assoc, ← ej] at c1
    rw [hj] at g1
    injection g1 with g1
    rw [g1]
    exact c1

theorem wpList_append_J (w : World) {ops : Array Oper} {rest : List Oper} {o : Oper} {a : Act} {Q : Exit → Act → World → Prop} (hgd : o.guard = none) (s x : Operand)
    (ho : o.op = .call { callee := .builtin .append, args := #[s, x], argTypes := #[30, 30] })
    (v : Value) (hs : a.eval s = v) (hown : JR w v []) (N : Nat → Prop) (A : Option Addr) (cap : Nat) (L : List J) (hx : a.eval x = .slice A L.length cap) (hL : JS w N A L) (hA : A = none → cap = 0) (hm : L.length ≤ 1000000)
    (h : ∀ v' w', JR w' v' L → w.grownBy w' v.ownBlock → NewOr w v v' → wpList Try.prog ops Q rest (a.put o.dst v') w') : wpList Try.prog ops Q (o :: rest) a w := by
  obtain ⟨i0, hi, hz0, hz1, hz2⟩ := info_parts Try.info27
  cases A with
  | none =>
    have hL0 : L = [] := by
      cases L with
      | nil => rfl
      | cons y L => obtain ⟨_, _, e, _⟩ := hL 0 (by simp); cases e
    have hc := hA rfl
    subst hL0 hc
    refine wpList_plain hgd fun K hK => ?_
    have hr := run_append_owned_none (P := Try.prog) w 0 30 o.type 27 i0 2 Try.underlying30 hi v 0 (jrow []) hown
    unfold Oper.wp execOp
    simp only [ho, resolve, invoke, builtin, Sem.run_bind, Sem.run_pure, Result.andThen_ok, List.map_toArray, List.map_cons, List.map_nil, hs, hx, List.length_nil, hr]
    exact hK _ _ (h v w hown (World.grownBy.refl w _) (.inl rfl))
  | some ad =>
    refine wpList_append_at w hgd s x 30 ho 27 i0 (.agg #[.int .i64 0, .int .i64 0]) 2 16 Try.underlying30 hi hz0 hz1 hz2 rfl (by decide) v 0 (jrow []) hs hown ad L.length cap (jrow L) hx (jrow_len L) hL.news (jrow_one L) (by simp only [maxLen]; omega) (by omega) ?_
    intro v' w' h1 h2 h3
    refine h v' w' ?_ h2 h3
    rw [Nat.zero_add] at h1
    exact h1

/-- What holds at the head of QueueWhile's loop: B has been taken out of the reference's queue. -/
structure RefI (w3 : World) (r : Nat) (b : Int) (L : List J) (k : Nat) (wr : World) (vL : Value) (L' B : List J) (vB : Value) : Prop where
  ref : RM wr r vL L'
  cnt : L'.length = k
  row : JR wr vB B
  all : B ++ (wh b L'.length L').1 = (wh b L.length L).1
  sum : B.length + L'.length = L.length
  or_ : ∀ j, Own r vL j → w3.heap.size ≤ j
  oo : ∀ j, vB.ownBlock = some j → w3.heap.size ≤ j ∧ ¬ Own r vL j
  kept : Kept (fun _ => False) w3 wr

theorem RefI.stop {w3 wr : World} {r k : Nat} {b : Int} {L L' B : List J} {vL vB : Value} (I : RefI w3 r b L k wr vL L' B vB) (hs : ¬ (L' ≠ [] ∧ (gj L' (fst L')).1 < b)) : B = (wh b L.length L).1 := by
  have h1 := I.all
  rw [wh_stop hs] at h1
  simpa using h1

theorem RefI.next {w3 wr : World} {r k : Nat} {b : Int} {L L' B : List J} {vL vB : Value} (I : RefI w3 r b L k wr vL L' B vB) (hn : L' ≠ []) (hlt : (gj L' (fst L')).1 < b)
    {w1 w2 w4 : World} (k1 : Kept (fun _ => False) wr w1) {vL2 : Value} (g1 : RM w2 r vL2 (L'.take (fst L') ++ L'.drop (fst L' + 1))) (g2 : Kept (fun j => j = r) w1 w2) (g3 : ∀ j, vL2.ownBlock = some j → w1.heap.size ≤ j)
    {vB2 : Value} (row : JR w4 vB2 (B ++ [gj L' (fst L')])) (kg : Kept (fun j => vB.ownBlock = some j) w2 w4) (hn2 : ∀ j, vB2.ownBlock = some j → vB.ownBlock = some j ∨ w2.heap.size ≤ j) :
    RefI w3 r b L (L'.eraseIdx (fst L')).length w4 vL2 (L'.eraseIdx (fst L')) (B ++ [gj L' (fst L')]) vB2 := by
  have hf := (fst_first hn).1
  have s1 := I.kept.size
  have s2 := k1.size
  have s3 := g2.size
  have ha := I.all
  rw [wh_step hn hlt] at ha
  have rl : r < w2.heap.size := g1.lt
  have bl : ∀ j, vB.ownBlock = some j → j < wr.heap.size := fun j hj => (World.ownsRow.lt I.row j hj).2
  refine ⟨?_, rfl, row, ?_, ?_, fun j hj => ?_, fun j hj => ?_, ?_⟩
  · rw [List.eraseIdx_eq_take_drop_succ]
    refine g1.kept kg (fun j hj q => ?_)
    rcases hj with e | e
    · exact (I.oo j q).2 (.inl e)
    · have := g3 j e
      have := bl j q
      omega
  · rw [List.append_assoc]
    exact ha
  · have := I.sum
    rw [List.length_append, List.length_eraseIdx, if_pos hf]
    simp only [List.length_cons, List.length_nil]
    omega
  · rcases hj with e | e
    · exact I.or_ j (.inl e)
    · have := g3 j e; omega
  · rcases hn2 j hj with e | e
    · refine ⟨(I.oo j e).1, ?_⟩
      rintro (q | q)
      · exact (I.oo j e).2 (.inl q)
      · have := g3 j q
        have := bl j e
        omega
    · refine ⟨by omega, ?_⟩
      rintro (q | q)
      · omega
      · have := g1.ownlt (.inr q); omega
  · refine ((I.kept.trans k1).trans' g2 (fun _ _ q => q) (fun j hj q => ?_)).trans' kg (fun _ _ q => q) (fun j hj q => ?_)
    · have := I.or_ j (.inl q); omega
    · have := (I.oo j q).1; omega

set_option maxRecDepth 100000 in
set_option maxHeartbeats 8000000 in
theorem while_short (w : World) (A : Option Addr) (cap : Nat) (L : List J) (bound : Int) (h : JS w (fun k => w.heap.size ≤ k) A L) (hA : A = none → cap = 0) (hm : L.length ≤ 200) :
    Calls Try.prog 5 #[.slice A L.length cap, .int .i64 bound] w fun e w' => e = .returned (.bool true) ∧ Kept (fun _ => False) w w' := by
  have hmi : ¬ (200 : Int) < (L.length : Int) := by omega
  obtain ⟨i0, hi, hz0, hz1, hz2⟩ := info_parts Try.info27
  have k00 : Kept (fun _ => False) w (w.alloc (.cells #[.int .i64 bound] 3)) := (Kept.refl _ w).alloc _
  have hb0 : (w.alloc (.cells #[.int .i64 bound] 3)).cell? ⟨w.heap.size, 0, none⟩ = some (.int .i64 bound) := by simp
  have hs00 : (w.alloc (.cells #[.int .i64 bound] 3)).heap.size = w.heap.size + 1 := by simp
  go_enter Try.func5, Try.ntmps5
  go_wp2_with fail
  refine (new_any _).mono ?_
  rintro e w1 ⟨c, rfl, hc, Q1, k1⟩
  have k01 := k00.trans k1
  have hb1 := k1.cell hb0 (fun q => q)
  rw [hs00] at hc
  have s1 := k1.size
  rw [hs00] at s1
  clear hs00 hb0 k00 k1
  have js : JS w1 (Own c (.slice none 0 0)) A L := h.weak k01 (fun j q => by
    rcases q with q | q
    · omega
    · cases q)
  have hH0 : Heap [] := fun j _ h => by simp at h
  go_wp2_with fail
  refine (push_any _ c _ [] 0 Q1 hH0 [] Rel.nil A cap L js (by simp; omega) (by decide)).mono ?_
  rintro e w2 ⟨rfl, H0, vH0, K0, hH, R0, hj0, Q2, K2, own2⟩
  rw [show jumps [] ++ L = L from rfl] at hj0
  have oc2 : ∀ j, Own c vH0 j → w.heap.size < j := fun j hj => by
    rcases own2 j hj with q | q
    · rcases q with q | q
      · omega
      · cases q
    · omega
  have k2 : Kept (fun _ => False) w w2 := k01.trans' K2 (fun _ _ q => q) (fun j hj q => by
    rcases q with q | q
    · omega
    · cases q)
  have hb2 := K2.cell hb1 (fun q => by
    rcases q with q | q
    · simp only at q; omega
    · cases q)
  have hl0 : H0.length ≤ 200 := by rw [R0.len, ← jumps_len, hj0]; exact hm
  have hw := while_any w2 c vH0 H0 _ Q2 hH K0 R0 hl0 bound w.heap.size hb2 (fun q => by have := oc2 _ q; omega)
  rw [hj0] at hw
  clear js own2 hb1 K2 Q1 hH0
  go_wp2_with fail
  refine hw.mono ?_
  clear hw
  rintro e w3 ⟨vA, H3, vH3, rfl, rowA, Q3, hH3, hown3, ooA, K3⟩
  have k3 : Kept (fun _ => False) w w3 := k2.trans' K3 (fun _ _ q => q) (fun j hj q => by have := oc2 j q; omega)
  have hb3 := K3.cell hb2 (fun q => by have := oc2 _ q; simp only at this; omega)
  have hwl := wh_len bound L.length L rfl
  have hH3i : (H3.length : Int) = (L.length : Int) - ((wh bound L.length L).1.length : Int) := by omega
  have kB : Kept (fun _ => False) w3 (w3.alloc (.cells #[] 27)) := (Kept.refl _ w3).alloc _
  have own0 : JR (w3.alloc (.cells #[] 27)) (.slice (some ⟨w3.heap.size, 0, none⟩) 0 0) [] := World.ownsRow_lit w3 #[] 0 (Nat.zero_le _) (Nat.zero_le _) rfl
  have js3 := (h.weak k3 (fun j q => q)).weak kB (N' := fun k => w.heap.size ≤ k) (fun j q => q)
  have hml : L.length ≤ 1000000 := by omega
  have HH3 := Lib.hid hH3i
  clear hb2 K3 k2 hH3 hj0 R0 hH Q2 oc2 k01 hH3i hown3
  go_wp2_with (at_builtin; refine wpList_append_J _ rfl _ _ rfl _ rfl own0 _ A cap L rfl js3 hA hml ?_; intro vL w4 r4 g4 n4; obtain ⟨AL, cL, hvL, _, _⟩ := r4.shape; subst hvL)
  have K4 : Kept (fun _ => False) w3 w4 := kB.grown g4 (fun k hk hlt => by injection hk with hk; simp only at hk; omega)
  have j4 := n4.ge (w := w3) (fun k hk => by injection hk with hk; simp only at hk; omega) kB.size
  have s4 := K4.size
  have k45 : Kept (fun _ => False) w4 (w4.alloc (.cells #[.slice AL L.length cL] 32)) := (Kept.refl _ w4).alloc _
  have k56 : Kept (fun _ => False) (w4.alloc (.cells #[.slice AL L.length cL] 32)) ((w4.alloc (.cells #[.slice AL L.length cL] 32)).alloc (.cells #[] 27)) := (Kept.refl _ _).alloc _
  have RM5 : RM (w4.alloc (.cells #[.slice AL L.length cL] 32)) w4.heap.size (.slice AL L.length cL) L := ⟨heap_alloc_new w4 _, r4.kept k45 (fun _ _ q => q)⟩
  have I0 : RefI w3 w4.heap.size bound L L.length ((w4.alloc (.cells #[.slice AL L.length cL] 32)).alloc (.cells #[] 27)) (.slice AL L.length cL) L [] (.slice (some ⟨w4.heap.size + 1, 0, none⟩) 0 0) := by
    have hs5 : (w4.alloc (.cells #[.slice AL L.length cL] 32)).heap.size = w4.heap.size + 1 := by simp
    have own1 : JR ((w4.alloc (.cells #[.slice AL L.length cL] 32)).alloc (.cells #[] 27)) (.slice (some ⟨(w4.alloc (.cells #[.slice AL L.length cL] 32)).heap.size, 0, none⟩) 0 0) [] := World.ownsRow_lit _ #[] 0 (Nat.zero_le _) (Nat.zero_le _) rfl
    rw [hs5] at own1
    refine ⟨RM5.kept k56 (fun _ _ q => q), rfl, own1, rfl, by simp, fun j hj => ?_, fun j hj => ?_, (K4.trans k45).trans k56⟩
    · rcases hj with q | q
      · omega
      · exact j4 j q
    · injection hj with hj
      simp only at hj
      refine ⟨by omega, fun q => ?_⟩
      have := RM5.ownlt q
      rw [hs5] at this
      omega
  generalize hr : w4.heap.size = r at *
  clear own0 js3 kB g4 n4 K4 j4 k45 k56 RM5 r4
  go_wp2_with fail
  go_loopg [8] L.length (fun k vB wr => ∃ vL L' B, RefI w3 r bound L k wr vL L' B vB)
  case atStart => exact ⟨_, _, _, I0⟩
  case round =>
    clear I0
    obtain ⟨vL, L', B, I⟩ := hrel
    have hsum := I.sum
    obtain ⟨AB, cB, rfl, _, _⟩ := I.row.shape
    have KK := I.kept
    have hB := I.row
    by_cases hL' : L' = []
    · have hBW := I.stop (fun q => q.1 hL')
      have hlt : ¬ (B.length : Int) < (L.length : Int) := by rw [hL'] at hsum; simp only [List.length_nil] at hsum; omega
      rw [hBW] at hB
      have hH3i := HH3.out
      rw [hBW] at hlt
      rw [hBW]
      clear hBW hsum I
      generalize (wh bound L.length L).1 = WA at *
      go_wp2_with fail
      refine (live_any _).mono ?_
      rintro e v1 ⟨rfl, m1⟩
      have m2 := KK.trans m1
      have hsame := same_any v1 vA _ WA (rowA.kept m2 (fun _ _ q => q)) (hB.kept m1 (fun _ _ q => q)) (by omega)
      clear hB
      go_wp2_with fail
      refine hsame.mono ?_
      clear hsame
      rintro e v2 ⟨rfl, n2, rfl⟩
      have hlen := len_any (v1.drewN n2) c vH3 H3 _ ((Q3.kept m2 (fun _ _ q => q)).drewN n2)
      rw [hH3i] at hlen
      go_wp2_with fail
      refine hlen.mono ?_
      rintro e v3 ⟨rfl, rfl⟩
      go_wp2_with fail
      go_ret
      exact ⟨rfl, k3.trans (m2.drewN n2)⟩
    · have hpos := List.length_pos_iff.2 hL'
      have hlt : (B.length : Int) < (L.length : Int) := by omega
      have hpk := rpeek_some wr r vL L' I.ref hL' (by omega)
      have rpp := fun (u : World) (h : RM u r vL L') => rpop_some u r vL L' h hL' (by omega)
      unfold PostRPop at rpp
      have hBl : B.length ≤ 200 := by omega
      have hb3' := KK.cell hb3 (fun q => q)
      generalize hy : gj L' (fst L') = y at *
      have HY := Lib.hid hy
      clear hy
      go_wp2_with fail
      refine hpk.mono ?_
      clear hpk
      rintro e u1 ⟨rfl, l1⟩
      have hbu := l1.cell hb3' (fun q => q)
      have hbl := World.block_lt_of_cell? (a := ⟨w.heap.size, 0, none⟩) _ hbu
      simp only at hbl
      have l2 : Kept (fun _ => False) u1 (u1.alloc (.cells #[.int .i64 y.1, .int .i64 y.2] 27)) := (Kept.refl _ u1).alloc _
      have hb2 := heap_alloc_new u1 (.cells #[.int .i64 y.1, .int .i64 y.2] 27)
      by_cases hge : bound ≤ y.1
      · have hBW := I.stop (fun q => by have := q.2; rw [HY.out] at this; omega)
        have hB := hB.kept (l1.trans l2) (fun _ _ q => q)
        rw [hBW] at hB
        have hH3i := HH3.out
        rw [hBW]
        clear hBW hsum
        generalize (wh bound L.length L).1 = WA at *
        go_wp2_with fail
        refine (live_any _).mono ?_
        rintro e v1 ⟨rfl, m1⟩
        have m2 := ((KK.trans l1).trans l2).trans m1
        have hsame := same_any v1 vA _ WA (rowA.kept m2 (fun _ _ q => q)) (hB.kept m1 (fun _ _ q => q)) (by omega)
        clear hB
        go_wp2_with fail
        refine hsame.mono ?_
        clear hsame
        rintro e v2 ⟨rfl, n2, rfl⟩
        have hlen := len_any (v1.drewN n2) c vH3 H3 _ ((Q3.kept m2 (fun _ _ q => q)).drewN n2)
        rw [hH3i] at hlen
        go_wp2_with fail
        refine hlen.mono ?_
        rintro e v3 ⟨rfl, rfl⟩
        go_wp2_with fail
        go_ret
        exact ⟨rfl, k3.trans (m2.drewN n2)⟩
      · go_wp2_with fail
        refine (rpp _ ((I.ref.kept l1 (fun _ _ q => q)).kept l2 (fun _ _ q => q))).mono ?_
        clear rpp
        rintro e u3 ⟨vL2, rfl, g1, g2, g3⟩
        have hrl := I.ref.lt
        have sl1 := l1.size
        have hb4 := g2.heap hb2 (by omega)
        have d0 := cell_of_row u3 _ 0 _ 27 (0, 0) hb4
        have d1 := cell_of_row u3 _ 1 _ 27 (0, 0) hb4
        simp only [List.getElem?_toArray, List.getElem?_cons_zero, List.getElem?_cons_succ] at d0 d1
        have hB3 : JR u3 (.slice AB B.length cB) B := (hB.kept (l1.trans l2) (fun _ _ q => q)).kept g2 (fun j hj q => (I.oo j hj).2 (.inl q))
        clear hb2 hb4 hbu hb3'
        go_wp2_with (at_builtin; refine wpList_append_at _ rfl _ _ 30 rfl 27 i0 (.agg #[.int .i64 0, .int .i64 0]) 2 16 Try.underlying30 hi hz0 hz1 hz2 rfl (by decide) (.slice AB B.length cB) B.length (jrow B) rfl (World.ownsRow.alloc hB3 _) ⟨u3.heap.size, 0, none⟩ 1 1 [.int .i64 y.1, .int .i64 y.2] rfl rfl (World.news_of_block (heap_alloc_new u3 (.cells #[.int .i64 y.1, .int .i64 y.2] 27))) (by simp [Value.oneCell']) (by simp only [maxLen]; omega) (by omega) ?_; intro vB2 w5 r5 g5 n5)
        have r5' : JR w5 vB2 (B ++ [y]) := by
          unfold JR
          rw [jrow_app, List.length_append]
          exact r5
        have kg : Kept (fun j => (Value.slice AB B.length cB).ownBlock = some j) u3 w5 := ((Kept.refl _ u3).alloc _).grown g5 (fun j hj _ => hj)
        have hn5 : ∀ j, vB2.ownBlock = some j → (Value.slice AB B.length cB).ownBlock = some j ∨ u3.heap.size ≤ j := fun j hj => by
          rcases n5 with e | ⟨k', e, hk'⟩
          · exact .inl (by rw [← e]; exact hj)
          · rw [hj] at e
            injection e with e
            have : (u3.alloc (.cells #[.int .i64 y.1, .int .i64 y.2] 27)).heap.size = u3.heap.size + 1 := by simp
            exact .inr (by omega)
        have IN := I.next hL' (by rw [HY.out]; omega) (l1.trans l2) g1 g2 g3 (by rw [HY.out]; exact r5') kg hn5
        have hdec : (L'.eraseIdx (fst L')).length < L'.length := by
          rw [List.length_eraseIdx, if_pos (fst_first hL').1]
          omega
        clear r5 g5 n5 r5' kg hn5 hB3 g1 g2 g3
        go_wp2_with fail
        go_roundg (L'.eraseIdx (fst L')).length
        case measure => (have := I.cnt; omega)
        case rel => exact ⟨_, _, _, IN⟩
end Go.Proofs.Ytagcfomjbnecdaa
