/- group.take; a sort of at most one group. -/
import Derived.Test.YthkeigljiinlbaaGreatM31
namespace Go.Proofs.YthkeigljiinlbaaGreat
open Go.RowKit

section
variable {P : Program} {α : Type} {enc : α → List Value} {sz : Nat} {W : World} {L M : List α} {T : TypeId} {v : Value}
/-- An append of things that lie in a block, with what it writes. -/
theorem Row.lit (t ty : TypeId) (z : Value) (bytes : Nat) (ht : P.underlying t = some (.slice T)) (hi : (P.info? T).map (fun i => (i.zero, i.size, i.bytes)) = some (some z, sz, bytes)) (hzs : z.cells.size = sz) (hsz : 0 < sz)
    (hlen : ∀ x, (enc x).length = sz) (hone : ∀ x, ∀ u ∈ enc x, u.oneCell' = true) (h : Row enc sz T W v L) (M : List α) (B c : Nat) {T' : TypeId} {f : Nat × Nat} (hB : W.heap[B]? = some (.cells (cellsOf enc M).toArray T' f))
    (h63 : L.length + M.length ≤ maxLen) (hb : (L.length + M.length) * bytes ≤ 140737488355328) :
    ∃ v' w', Hid ((Builtin.append_ #[t, t] ty #[v, .slice (some ⟨B, 0, none⟩) M.length c]).run P W = .ok v' w') ∧ (Row enc sz T w' v' (L ++ M) ∧ Kept (fun j => v.ownBlock = some j) W w' ∧ ∀ j, v'.ownBlock = some j → v.ownBlock = some j ∨ W.heap.size ≤ j) := by
  obtain ⟨A', c', w', h1, h2, h3, h4⟩ := app_src (P := P) (M := M) (N := fun _ => False) t ty z bytes ht hi hzs hsz hlen hone h (some ⟨B, 0, none⟩) c (by simp) (Src.many hlen hB (fun q => q)) h63 hb
  have e : (L ++ M).length = L.length + M.length := List.length_append
  rw [e] at h2
  exact ⟨_, w', h1, h2, h3, h4⟩
end

theorem region_drawn {P : Program} {id : Nat} {ops : Array Oper} {Q : Exit → Act → World → Prop} {a : Act} {w : World} (hm : P.follows .mixedOrders = true) (h : wpAny P .any ops Q ops.size (Array.replicate ops.size false) a w.drew) :
    (Code.region id ops true).wp P Q a w := wp_region_any hm h

set_option maxHeartbeats 1000000 in
set_option maxRecDepth 100000 in
theorem take_any (gb : Nat) (v vals : Value) (M : List PE) (p : PE) (W : World) (hg : W.heap[gb]? = some (.cells #[v, vals] 99 (0, 0))) (hr : Row encE 3 50 W v M) (hl : M.length ≤ 1048576) :
    Calls Tryz.prog 37 #[.pointer (some ⟨gb, 0, none⟩), .agg #[slE p, .int .i64 p.2.a, .int .i64 p.2.n]] W fun e W' => (∃ u, e = .returned u) ∧ ∃ v', W'.heap[gb]? = some (.cells #[v', vals] 99 (0, 0)) ∧ Row encE 3 50 W' v' (M ++ [p]) ∧
      Kept (fun j => j = gb ∨ v.ownBlock = some j) W W' ∧ ∀ j, v'.ownBlock = some j → v.ownBlock = some j ∨ W.heap.size ≤ j := by
  have hgv := hr.other hg (by decide)
  have kal := (Kept.refl (fun _ => False) W).alloc (.cells #[slE p, .int .i64 p.2.a, .int .i64 p.2.n] 50)
  have al := heap_alloc_new W (.cells #[slE p, .int .i64 p.2.a, .int .i64 p.2.n] 50)
  have hrX := fun (WX : World) (hx : Kept (fun _ => False) W WX) => hr.same hx
  have hgX := fun (WX : World) (hx : Kept (fun _ => False) W WX) => hx.heap hg (fun q => q)
  obtain ⟨u, hu⟩ : ∃ u, slE p = u := ⟨_, rfl⟩
  have huc : u.oneCell' = true := by rw [← hu]; rfl
  have HU := Lib.hid hu
  have hcs : cellsOf encE [p] = [u, .int .i64 p.2.a, .int .i64 p.2.n] := by rw [← hu]; rfl
  have HCS := Lib.hid hcs
  rw [hu] at kal al ⊢
  obtain ⟨a, ha⟩ : ∃ a, p.2.a = a := ⟨_, rfl⟩
  obtain ⟨n, hn⟩ : ∃ n, p.2.n = n := ⟨_, rfl⟩
  rw [ha, hn] at kal al hcs ⊢
  obtain ⟨A0, e0, hv0, _, _⟩ := hr.shape
  have HV0 := Lib.hid hv0
  obtain ⟨NN, hNN⟩ : ∃ NN, M.length = NN := ⟨_, rfl⟩
  rw [hNN] at hl
  have HNN := Lib.hid hNN
  have hl1 : ∃ v' w', Hid ((Builtin.append_ #[22, 22] 22 #[v, .slice (some ⟨W.heap.size + 1, 0, none⟩) 1 1]).run Tryz.prog ((W.alloc (.cells #[u, .int .i64 a, .int .i64 n] 50)).alloc (.cells #[u, .int .i64 a, .int .i64 n] 50)).drew = .ok v' w') ∧
      (Row encE 3 50 w' v' (M ++ [p]) ∧ Kept (fun j => v.ownBlock = some j) W w' ∧ (∀ j, v'.ownBlock = some j → v.ownBlock = some j ∨ W.heap.size ≤ j) ∧ w'.heap[gb]? = some (.cells #[v, vals] 99 (0, 0))) := by
    have hxa := (kal.alloc (.cells #[u, .int .i64 a, .int .i64 n] 50)).drew
    have hn2 := heap_alloc_new (W.alloc (.cells #[u, .int .i64 a, .int .i64 n] 50)) (.cells #[u, .int .i64 a, .int .i64 n] 50)
    rw [World.size_alloc] at hn2
    obtain ⟨v', w', h1, h2, h3, h4⟩ := Row.lit (P := Tryz.prog) (sz := 3) 22 22 (.agg #[.slice none 0 0, .int .i64 0, .int .i64 0]) 40 Tryz.underlying22 (by kernel_rfl) rfl (by decide) encE_len encE_one (hrX _ hxa) [p] (W.heap.size + 1) 1 (T' := 50) (f := (0, 0)) (by rw [hcs]; exact hn2) (by rw [HNN.out]; unfold maxLen; simp only [List.length_cons, List.length_nil]; omega) (by rw [HNN.out]; simp only [List.length_cons, List.length_nil]; omega)
    exact ⟨v', w', h1, h2, hxa.trans' h3 (fun _ _ q => q.elim) (fun _ _ q => q), fun j hj => by rcases h4 j hj with q | q; exact .inl q; exact .inr (Nat.le_trans hxa.size q), h3.heap (hgX _ hxa) hgv⟩
  clear hcs hv0 hNN hu ha hn
  go_enter Tryz.func37, Tryz.ntmps37
  go_wp2_with fail
  have g1 := kal.drew.heap hg (fun q => q)
  have g1a := (kal.alloc (.cells #[u, .int .i64 a, .int .i64 n] 50)).drew.heap hg (fun q => q)
  have c0 := cell_of_row _ _ 0 _ _ _ g1
  have c0a := cell_of_row _ _ 0 _ _ _ g1a
  have x0 := cell_of_row _ _ 0 _ _ _ ((Kept.refl (fun _ => False) _).drew.heap al (fun q => q))
  have x1 := cell_of_row _ _ 1 _ _ _ ((Kept.refl (fun _ => False) _).drew.heap al (fun q => q))
  have x2 := cell_of_row _ _ 2 _ _ _ ((Kept.refl (fun _ => False) _).drew.heap al (fun q => q))
  simp only [List.getElem?_toArray, List.getElem?_cons_zero, List.getElem?_cons_succ] at c0 c0a x0 x1 x2
  refine region_drawn rfl ?_
  refine wpAny_take (i := 0) (v := ?_) rfl (by kernel_rfl) (by kernel_rfl) (by kernel_rfl) (fun _ _ _ h => h) (Or.inl ⟨by rfl, ?_⟩) ?_
  rotate_left
  · (intro w; go_simp)
    try with_reducible rfl
  refine wpAny_take (i := 1) (v := ?_) rfl (by kernel_rfl) (by kernel_rfl) (by kernel_rfl) (fun _ _ _ h => h) (Or.inl ⟨by rfl, ?_⟩) ?_
  rotate_left
  · (intro w; go_simp)
    try with_reducible rfl
  refine wpAny_take (i := 2) (v := ?_) rfl (by kernel_rfl) (by kernel_rfl) (by kernel_rfl) (fun _ _ _ h => h) (Or.inl ⟨by rfl, ?_⟩) ?_
  rotate_left
  · (intro w; go_simp)
    try with_reducible rfl
  refine wpAny_take (i := 3) (v := ?_) rfl (by kernel_rfl) (by kernel_rfl) (by kernel_rfl) (fun _ _ _ h => h) (Or.inl ⟨by rfl, ?_⟩) ?_
  rotate_left
  · (intro w; go_simp)
    try with_reducible rfl
  refine wpAny_ready (rs := [4, 5]) (by kernel_rfl) (by simp) ?_
  refine AllReady.cons rfl (fun K hK => ?_) ?_
  · skip
    go_simp
    refine hK _ _ ?_
    clear hK K
    refine wpAny_ready (rs := [5]) (by kernel_rfl) (by simp) ?_
    refine AllReady.cons rfl (fun K hK => ?_) AllReady.nil
    go_simp
    refine hK _ _ ?_
    clear hK K
    refine wpAny_ready (rs := [6]) (by kernel_rfl) (by simp) ?_
    refine AllReady.cons rfl (fun K hK => ?_) AllReady.nil
    go_simp
    refine hK _ _ ?_
    clear hK K
    refine wpAny_ready (rs := [7]) (by kernel_rfl) (by simp) ?_
    refine AllReady.cons rfl (fun K hK => ?_) AllReady.nil
    refine step_ex rfl _ _ _ _ rfl rfl rfl hl1 ?_
    rintro v' w4 ⟨h1, h2, h3, h4⟩
    obtain ⟨N4, hN4⟩ : ∃ N4, (M ++ [p]).length = N4 := ⟨_, rfl⟩
    obtain ⟨A4, e4, hv4, _, _⟩ := h1.shape
    rw [hN4] at hv4
    have HN4 := Lib.hid hN4
    subst hv4
    clear hN4
    refine hK _ _ ?_
    clear hK K
    have c4 := cell_of_row _ _ 0 _ _ _ h4
    have f4 := frozen_of h4 0
    simp only [List.getElem?_toArray, List.getElem?_cons_zero] at c4
    refine wpAny_ready (rs := [8]) (by kernel_rfl) (by simp) ?_
    refine AllReady.cons rfl (fun K hK => ?_) AllReady.nil
    go_simp
    refine hK _ _ ?_
    clear hK K
    refine wpAny_ready (rs := [9]) (by kernel_rfl) (by simp) ?_
    refine AllReady.cons rfl (fun K hK => ?_) AllReady.nil
    go_simp
    refine hK _ _ ?_
    clear hK K
    refine wpAny_ready (rs := [10]) (by kernel_rfl) (by simp) ?_
    refine AllReady.cons rfl (fun K hK => ?_) AllReady.nil
    go_simp
    refine hK _ _ ?_
    clear hK K
    refine wpAny_done (by kernel_rfl) ?_ _
    have k4 := (Kept.refl (fun j => j = gb) w4).setCell (p := ⟨gb, 0, none⟩) (fun _ => rfl) (.slice A4 N4 e4)
    have H9 := Lib.hid (show _ ∧ _ ∧ _ ∧ _ from ⟨blk_set h4 0 (.slice A4 N4 e4), h1.kept k4 (fun j hj q => h1.other h4 (by decide) (by rw [hj, q])), h2.trans' k4 (U := fun j => j = gb ∨ v.ownBlock = some j) (fun _ _ q => Or.inr q) (fun _ _ q => Or.inl q), h3⟩)
    clear h1 h2 h3 h4 k4
    go_wp2_with fail
    go_end0
    exact ⟨⟨_, rfl⟩, _, H9.out⟩
  · refine AllReady.cons rfl (fun K hK => ?_) AllReady.nil
    go_simp
    refine hK _ _ ?_
    clear hK K
    refine wpAny_ready (rs := [4, 6]) (by kernel_rfl) (by simp) ?_
    refine AllReady.cons rfl (fun K hK => ?_) ?_
    · skip
      go_simp
      refine hK _ _ ?_
      clear hK K
      refine wpAny_ready (rs := [6]) (by kernel_rfl) (by simp) ?_
      refine AllReady.cons rfl (fun K hK => ?_) AllReady.nil
      go_simp
      refine hK _ _ ?_
      clear hK K
      refine wpAny_ready (rs := [7]) (by kernel_rfl) (by simp) ?_
      refine AllReady.cons rfl (fun K hK => ?_) AllReady.nil
      refine step_ex rfl _ _ _ _ rfl rfl rfl hl1 ?_
      rintro v' w4 ⟨h1, h2, h3, h4⟩
      obtain ⟨N4, hN4⟩ : ∃ N4, (M ++ [p]).length = N4 := ⟨_, rfl⟩
      obtain ⟨A4, e4, hv4, _, _⟩ := h1.shape
      rw [hN4] at hv4
      have HN4 := Lib.hid hN4
      subst hv4
      clear hN4
      refine hK _ _ ?_
      clear hK K
      have c4 := cell_of_row _ _ 0 _ _ _ h4
      have f4 := frozen_of h4 0
      simp only [List.getElem?_toArray, List.getElem?_cons_zero] at c4
      refine wpAny_ready (rs := [8]) (by kernel_rfl) (by simp) ?_
      refine AllReady.cons rfl (fun K hK => ?_) AllReady.nil
      go_simp
      refine hK _ _ ?_
      clear hK K
      refine wpAny_ready (rs := [9]) (by kernel_rfl) (by simp) ?_
      refine AllReady.cons rfl (fun K hK => ?_) AllReady.nil
      go_simp
      refine hK _ _ ?_
      clear hK K
      refine wpAny_ready (rs := [10]) (by kernel_rfl) (by simp) ?_
      refine AllReady.cons rfl (fun K hK => ?_) AllReady.nil
      go_simp
      refine hK _ _ ?_
      clear hK K
      refine wpAny_done (by kernel_rfl) ?_ _
      have k4 := (Kept.refl (fun j => j = gb) w4).setCell (p := ⟨gb, 0, none⟩) (fun _ => rfl) (.slice A4 N4 e4)
      have H9 := Lib.hid (show _ ∧ _ ∧ _ ∧ _ from ⟨blk_set h4 0 (.slice A4 N4 e4), h1.kept k4 (fun j hj q => h1.other h4 (by decide) (by rw [hj, q])), h2.trans' k4 (U := fun j => j = gb ∨ v.ownBlock = some j) (fun _ _ q => Or.inr q) (fun _ _ q => Or.inl q), h3⟩)
      clear h1 h2 h3 h4 k4
      go_wp2_with fail
      go_end0
      exact ⟨⟨_, rfl⟩, _, H9.out⟩
    · refine AllReady.cons rfl (fun K hK => ?_) AllReady.nil
      go_simp
      refine hK _ _ ?_
      clear hK K
      refine wpAny_ready (rs := [4]) (by kernel_rfl) (by simp) ?_
      refine AllReady.cons rfl (fun K hK => ?_) AllReady.nil
      go_simp
      refine hK _ _ ?_
      clear hK K
      refine wpAny_ready (rs := [7]) (by kernel_rfl) (by simp) ?_
      refine AllReady.cons rfl (fun K hK => ?_) AllReady.nil
      refine step_ex rfl _ _ _ _ rfl rfl rfl hl1 ?_
      rintro v' w4 ⟨h1, h2, h3, h4⟩
      obtain ⟨N4, hN4⟩ : ∃ N4, (M ++ [p]).length = N4 := ⟨_, rfl⟩
      obtain ⟨A4, e4, hv4, _, _⟩ := h1.shape
      rw [hN4] at hv4
      have HN4 := Lib.hid hN4
      subst hv4
      clear hN4
      refine hK _ _ ?_
      clear hK K
      have c4 := cell_of_row _ _ 0 _ _ _ h4
      have f4 := frozen_of h4 0
      simp only [List.getElem?_toArray, List.getElem?_cons_zero] at c4
      refine wpAny_ready (rs := [8]) (by kernel_rfl) (by simp) ?_
      refine AllReady.cons rfl (fun K hK => ?_) AllReady.nil
      go_simp
      refine hK _ _ ?_
      clear hK K
      refine wpAny_ready (rs := [9]) (by kernel_rfl) (by simp) ?_
      refine AllReady.cons rfl (fun K hK => ?_) AllReady.nil
      go_simp
      refine hK _ _ ?_
      clear hK K
      refine wpAny_ready (rs := [10]) (by kernel_rfl) (by simp) ?_
      refine AllReady.cons rfl (fun K hK => ?_) AllReady.nil
      go_simp
      refine hK _ _ ?_
      clear hK K
      refine wpAny_done (by kernel_rfl) ?_ _
      have k4 := (Kept.refl (fun j => j = gb) w4).setCell (p := ⟨gb, 0, none⟩) (fun _ => rfl) (.slice A4 N4 e4)
      have H9 := Lib.hid (show _ ∧ _ ∧ _ ∧ _ from ⟨blk_set h4 0 (.slice A4 N4 e4), h1.kept k4 (fun j hj q => h1.other h4 (by decide) (by rw [hj, q])), h2.trans' k4 (U := fun j => j = gb ∨ v.ownBlock = some j) (fun _ _ q => Or.inr q) (fun _ _ q => Or.inl q), h3⟩)
      clear h1 h2 h3 h4 k4
      go_wp2_with fail
      go_end0
      exact ⟨⟨_, rfl⟩, _, H9.out⟩
end Go.Proofs.YthkeigljiinlbaaGreat

/- A sort of at most one group. -/
namespace Go.Proofs.YthkeigljiinlbaaGreat
open Go.RowKit

set_option maxRecDepth 100000 in
theorem len64_any (x : Nat) (hx : x ≤ 1) (w : World) : Calls Tryz.prog 117 #[.int .u64 x] w fun e w' => ∃ k, e = .returned (.int .i64 k) ∧ w' = w := by
  rcases (show x = 0 ∨ x = 1 by omega) with rfl | rfl
  · go_enter Tryz.func117, Tryz.ntmps117
    go_wp2_with fail
    go_ret
    exact ⟨_, rfl, rfl⟩
  · go_enter Tryz.func117, Tryz.ntmps117
    go_wp2_with fail
    go_ret
    exact ⟨_, rfl, rfl⟩
set_option maxRecDepth 100000 in
theorem len_any (x : Nat) (hx : x ≤ 1) (w : World) : Calls Tryz.prog 77 #[.int .u64 x] w fun e w' => ∃ k, e = .returned (.int .i64 k) ∧ w' = w := by
  have h := fun wx => len64_any x hx wx
  have hw : IntKind.u64.wrap (x : Int) = x := by rw [IntKind.wrap_u64]; omega
  clear hx
  go_enter Tryz.func77, Tryz.ntmps77
  go_wp2_with fail
  refine (h _).mono ?_
  rintro e w1 ⟨k, rfl, rfl⟩
  go_wp2_with fail
  go_ret
  exact ⟨_, rfl, rfl⟩
set_option maxRecDepth 100000 in
theorem insG0 (n : Nat) (hn : n ≤ 1) (v f : Value) (w : World) : Calls Tryz.prog 108 #[v, .int .i64 0, .int .i64 n, f] w fun e w' => (∃ u, e = .returned u) ∧ w' = w := by
  have h1 : decide ((1 : Int) < (n : Int)) = false := by simp; omega
  have h2 : ¬ ((1 : Int) < (n : Int)) := by omega
  go_enter Tryz.func108, Tryz.ntmps108
  go_wp2_with fail
  go_loopg [8] 0 (fun k iv wr => iv = .int .i64 1 ∧ w = wr)
  case atStart => exact ⟨rfl, rfl⟩
  case round =>
    obtain ⟨rfl, rfl⟩ := hrel
    go_wp2_with fail
    go_end0
    exact ⟨⟨_, rfl⟩, rfl⟩
set_option maxHeartbeats 2000000 in
set_option maxRecDepth 100000 in
theorem pdqG0 (n : Nat) (hn : n ≤ 1) (v f k : Value) (w : World) : Calls Tryz.prog 76 #[v, .int .i64 0, .int .i64 n, k, f] w fun e w' => (∃ u, e = .returned u) ∧ w' = w := by
  rcases (show n = 0 ∨ n = 1 by omega) with rfl | rfl
  · have hi := fun wx => insG0 0 (by omega) v f wx
    go_enter Tryz.func76, Tryz.ntmps76
    go_wp2_with fail
    go_loopg [1, 2] 0 (fun k iv bv wr => iv = .int .i64 0 ∧ bv = .int .i64 (0 : Nat) ∧ w = wr)
    case atStart => exact ⟨rfl, rfl, rfl⟩
    case round =>
      obtain ⟨rfl, rfl, rfl⟩ := hrel
      go_wp2_with fail
      refine (hi _).mono ?_
      rintro e w1 ⟨⟨u, rfl⟩, rfl⟩
      go_wp2_with fail
      refine bodyPost_ret (results_none rfl _ _ _) rfl ?_
      exact ⟨⟨_, rfl⟩, rfl⟩
  · have hi := fun wx => insG0 1 (by omega) v f wx
    go_enter Tryz.func76, Tryz.ntmps76
    go_wp2_with fail
    go_loopg [1, 2] 0 (fun k iv bv wr => iv = .int .i64 0 ∧ bv = .int .i64 (1 : Nat) ∧ w = wr)
    case atStart => exact ⟨rfl, rfl, rfl⟩
    case round =>
      obtain ⟨rfl, rfl, rfl⟩ := hrel
      go_wp2_with fail
      refine (hi _).mono ?_
      rintro e w1 ⟨⟨u, rfl⟩, rfl⟩
      go_wp2_with fail
      refine bodyPost_ret (results_none rfl _ _ _) rfl ?_
      exact ⟨⟨_, rfl⟩, rfl⟩
set_option maxRecDepth 100000 in
theorem sortG0 (n : Nat) (hn : n ≤ 1) (A : Option Addr) (c : Nat) (f : Value) (w : World) : Calls Tryz.prog 38 #[.slice A n c, f] w fun e w' => (∃ u, e = .returned u) ∧ w' = w := by
  have hl := fun wx => len_any n hn wx
  have hp := fun k wx => pdqG0 n hn (.slice A n c) f k wx
  have hw : IntKind.u64.wrap (n : Int) = n := by rw [IntKind.wrap_u64]; omega
  clear hn
  go_enter Tryz.func38, Tryz.ntmps38
  go_wp2_with fail
  refine (hl _).mono ?_
  rintro e w1 ⟨k, rfl, rfl⟩
  go_wp2_with fail
  refine (hp _ _).mono ?_
  rintro e w2 ⟨⟨u, rfl⟩, rfl⟩
  go_wp2_with fail
  go_end0
  exact ⟨⟨_, rfl⟩, rfl⟩
end Go.Proofs.YthkeigljiinlbaaGreat
