/- pack.Pieces. -/
import Derived.Test.YthkeigljiinlbaaGreatM42
namespace Go.Proofs.YthkeigljiinlbaaGreat
open Go.RowKit
attribute [local go_sem] Oper.semAt_some

/-- A piece: a row and its lifetime. -/
structure PPc where
  ra : Option Addr
  rc : Nat
  r : List Wd
  f : Int
  u : Int
def encPc (p : PPc) : List Value := [.slice p.ra p.r.length p.rc, .int .i64 p.f, .int .i64 p.u]
theorem encPc_len (p : PPc) : (encPc p).length = 3 := rfl
theorem encPc_one : ∀ x : PPc, ∀ u ∈ encPc x, u.oneCell' = true := by
  intro x u hu
  unfold encPc at hu
  simp only [List.mem_cons, List.not_mem_nil, or_false] at hu
  rcases hu with rfl | rfl | rfl <;> rfl
def PPc.sp (p : PPc) : Int × Int := (p.f, p.u)
structure PieM (A2 W : World) (b7 : Nat) (v0 v : Value) (P : List PPc) : Prop where
  box : W.heap[b7]? = some (.cells #[v] 37 (0, 0))
  row : Row encPc 3 45 W v P
  own : ∀ j, v.ownBlock = some j → v0.ownBlock = some j ∨ A2.heap.size ≤ j
  kept : Kept (fun j => j = b7 ∨ v0.ownBlock = some j) A2 W
theorem PieM.same {A2 W W' : World} {b7 : Nat} {v0 v : Value} {P : List PPc} (h : PieM A2 W b7 v0 v P) (k : Kept (fun _ => False) W W') : PieM A2 W' b7 v0 v P :=
  ⟨k.heap h.box (fun q => q), h.row.same k, h.own, h.kept.trans' k (fun _ _ q => q) (fun _ _ q => q.elim)⟩
theorem pie_push {A2 W : World} {b7 : Nat} {v0 v : Value} {P : List PPc} (p : PPc) (h : PieM A2 W b7 v0 v P) (hl : P.length ≤ 100000) :
    ∃ v' W2, Hid ((Builtin.append_ #[37, 37] 37 #[v, .slice (some ⟨W.heap.size, 0, none⟩) 1 1]).run Tryz.prog (W.alloc (.cells #[.slice p.ra p.r.length p.rc, .int .i64 p.f, .int .i64 p.u] 45)) = .ok v' W2) ∧ (∃ A' n' c', v' = .slice A' n' c') ∧
      W2.heap[b7]? = some (.cells #[v] 37 (0, 0)) ∧ PieM A2 (W2.setCell ⟨b7, 0, none⟩ v') b7 v0 v' (P ++ [p]) := by
  have kal := (Kept.refl (fun _ => False) W).alloc (.cells #[.slice p.ra p.r.length p.rc, .int .i64 p.f, .int .i64 p.u] 45)
  obtain ⟨v', W2, h1, h2, h3, h4⟩ := Row.lit (P := Tryz.prog) (sz := 3) 37 37 (.agg #[.slice none 0 0, .int .i64 0, .int .i64 0]) 40 Tryz.underlying37 (by kernel_rfl) rfl (by decide) encPc_len encPc_one (h.row.same kal) [p] W.heap.size 1 (heap_alloc_new W _) (by simp only [List.length_cons, List.length_nil, maxLen]; omega) (by simp only [List.length_cons, List.length_nil]; omega)
  have k2 : Kept (fun j => v.ownBlock = some j) W W2 := kal.trans' h3 (fun _ _ q => q.elim) (fun _ _ q => q)
  have g3 := k2.heap h.box (fun q => h.row.other h.box (by decide) q)
  have ks := (Kept.refl (fun j => j = b7) W2).setCell (p := ⟨b7, 0, none⟩) (fun _ => rfl) v'
  obtain ⟨A', c', hv', _, _⟩ := h2.shape
  have hov : ∀ j, j < A2.heap.size → v.ownBlock = some j → v0.ownBlock = some j := fun j hj q => by
    rcases h.own j q with e | e
    · exact e
    · omega
  refine ⟨v', W2, h1, ⟨A', _, c', hv'⟩, g3, blk_set g3 0 v', h2.kept ks (fun j hj q => h2.other g3 (by decide) (by rw [hj, q])), fun j hj => ?_, (h.kept.trans' k2 (fun _ _ q => q) (fun j hj q => .inr (hov j hj q))).trans' ks (fun _ _ q => q) (fun _ _ q => .inl q)⟩
  rcases h4 j hj with q | q
  · exact h.own j q
  · exact .inr (Nat.le_trans h.kept.size (Nat.le_trans kal.size q))

def mostR (gs : List (List Wd × List Jp)) : Int := (gs.map (fun p => mostZ p.2)).sum
def CntI (L : List Ed) (w : World) (b4 : Nat) (k : Nat) (O : Nat → Prop) (W : World) : Prop :=
  O = (fun j => j = b4) ∧ W.heap[b4]? = some (.cells #[.int .i64 (mostR ((runsL L).take k))] 3 (0, 0)) ∧ Kept (fun _ => False) w W
theorem cntI_stable (L : List Ed) (w : World) (b4 : Nat) {s : Nat} (hs : w.heap.size ≤ s) : Stable s (CntI L w b4) := by
  rintro k O A C X ⟨rfl, h0, h5⟩ hX hXX
  exact ⟨rfl, hX.heap h0 (fun q => (hXX _ q).2 rfl), h5.trans' hX (fun _ _ q => q) (fun j hj q => by have := (hXX _ q).1; omega)⟩
theorem mostR_snoc (gs : List (List Wd × List Jp)) (p : List Wd × List Jp) : mostR (gs ++ [p]) = mostR gs + mostZ p.2 := by
  unfold mostR; rw [List.map_append, List.sum_append, List.map_singleton, List.sum_singleton]
theorem mostR_pos : ∀ gs : List (List Wd × List Jp), 0 ≤ mostR gs
  | [] => Int.le_refl _
  | p :: gs => by
    have := mostR_pos gs
    have := mostZ_pos p.2
    unfold mostR at *
    rw [List.map_cons, List.sum_cons]
    omega
theorem mostR_bound : ∀ gs : List (List Wd × List Jp), (∀ p ∈ gs, stepMayB p.2 = true) → mostR gs ≤ 1073741824 * (gs.length : Int)
  | [], _ => by simp [mostR]
  | p :: gs, h => by
    have ih := mostR_bound gs (fun q hq => h q (List.mem_cons_of_mem _ hq))
    obtain ⟨h1, _, h3⟩ := may_all (h p (List.mem_cons_self ..))
    have := mostZ_bound p.2 (fun x hx => (h3 x hx).2.2.2.2)
    unfold mostR at *
    rw [List.map_cons, List.sum_cons, List.length_cons]
    omega
theorem mostR_take (gs : List (List Wd × List Jp)) (k : Nat) : mostR (gs.take k) ≤ mostR gs := by
  have h : mostR (gs.take k) + mostR (gs.drop k) = mostR gs := by
    unfold mostR
    rw [← List.sum_append, ← List.map_append, List.take_append_drop]
  have := mostR_pos (gs.drop k)
  omega

def PieO (b7 : Nat) (v : Value) : Nat → Prop := fun j => j = b7 ∨ v.ownBlock = some j
def spansR (gs : List (List Wd × List Jp)) : List (Int × Int) := gs.flatMap (fun p => spansF p.2)
def PieI (L : List Ed) (w : World) (b7 D1 : Nat) (k : Nat) (O : Nat → Prop) (W : World) : Prop :=
  ∃ (v : Value) (P : List PPc), O = PieO b7 v ∧ W.heap[b7]? = some (.cells #[v] 37 (0, 0)) ∧ Row encPc 3 45 W v P ∧ (∀ j, v.ownBlock = some j → w.heap.size ≤ j) ∧ P.map PPc.sp = spansR ((runsL L).take k) ∧ Kept (fun _ => False) w W ∧ W.heap[D1]? = some (.deferred (some []))
theorem pieI_stable (L : List Ed) (w : World) (b7 D1 : Nat) {s : Nat} (hs : w.heap.size ≤ s) (hD : D1 < s) : Stable s (PieI L w b7 D1) := by
  rintro k O A C X ⟨v, P, rfl, h0, h1, h2, h3, h4, h5⟩ hX hXX
  exact ⟨v, P, rfl, hX.heap h0 (fun q => (hXX _ q).2 (.inl rfl)), h1.kept hX (fun j hj q => (hXX _ q).2 (.inr hj)), h2, h3, h4.trans' hX (fun _ _ q => q) (fun j hj q => by have := (hXX _ q).1; omega), hX.heap h5 (fun q => by have := (hXX _ q).1; omega)⟩
theorem spansR_len : ∀ gs : List (List Wd × List Jp), ((spansR gs).length : Int) ≤ mostR gs
  | [] => Int.le_refl _
  | p :: gs => by
    have ih := spansR_len gs
    have := spansF_len p.2
    unfold spansR mostR at *
    rw [List.flatMap_cons, List.length_append, List.map_cons, List.sum_cons]
    omega
theorem spansR_cnt (t : Int) (ht : t < 1125899906842624) : ∀ gs : List (List Wd × List Jp), (∀ p ∈ gs, tabB p.2 = true) → cntS (spansR gs) t = sumR gs t
  | [], _ => rfl
  | p :: gs, h => by
    have ih := spansR_cnt t ht gs (fun q hq => h q (List.mem_cons_of_mem _ hq))
    unfold spansR sumR at *
    rw [List.flatMap_cons, cntS_app, spans_law (h p (List.mem_cons_self ..)) t ht, ih, List.map_cons, List.sum_cons]

set_option maxHeartbeats 4000000 in
set_option maxRecDepth 100000 in
theorem pieces_any (L : List Ed) (A : Option Addr) (c : Nat) (w : World) (hl : L.length ≤ 200) (hs : EdS w (fun _ => False) A L) (h8 : ∀ x ∈ L, x.r.length ≤ 1048576) :
    Calls Tryz.prog 7 #[.slice A L.length c] w fun e w' => ∃ (v : Value) (k : Int), e = .returned (.tuple #[v, .int .i64 k]) ∧ Kept (fun _ => False) w w' ∧
      ((k = 0 ∧ ∃ P : List PPc, Row encPc 3 45 w' v P ∧ P.length ≤ 4096 ∧ ∀ t, t < 1125899906842624 → cntS (P.map PPc.sp) t = cntE L t) ∨ k ≠ 0) := by
  have hem := fun wx hx => emay_any L A c wx (by omega) hx
  have het := fun wx hx => etab_any L A c wx (by omega) hx
  have hgr := fun wx => groups_fn A L.length c wx
  cases hmay : edMay L with
  | false =>
    rw [hmay] at hem
    clear hmay
    refine calls_marks Tryz.func7 rfl ?_
    simp only [Tryz.ntmps7, List.size_toArray, List.length_cons, List.length_nil, Nat.reduceAdd, Nat.reduceSub, Array.replicate_succ, Array.replicate_zero, List.push_toArray, List.append_toArray, List.nil_append, List.cons_append]
    gi_wp2_with fail
    refine ⟨trivial, rfl, callsIn_wide.2 ((hem _ hs).mono ?_)⟩
    rintro e w1 ⟨rfl, k1⟩
    gi_wp2_with fail
    refine ⟨.tuple #[.slice none 0 0, .int .i64 2], ?_, _, 2, rfl, k1, .inr (by decide)⟩
    simp [results, Tryz.results7, go_sem]
  | true =>
  cases htab : edTab L with
  | false =>
    rw [hmay] at hem
    rw [htab] at het
    clear hmay htab
    refine calls_marks Tryz.func7 rfl ?_
    simp only [Tryz.ntmps7, List.size_toArray, List.length_cons, List.length_nil, Nat.reduceAdd, Nat.reduceSub, Array.replicate_succ, Array.replicate_zero, List.push_toArray, List.append_toArray, List.nil_append, List.cons_append]
    gi_wp2_with fail
    refine ⟨trivial, rfl, callsIn_wide.2 ((hem _ hs).mono ?_)⟩
    rintro e w1 ⟨rfl, k1⟩
    gi_wp2_with fail
    refine ⟨trivial, rfl, callsIn_wide.2 ((het _ (hs.same k1)).mono ?_)⟩
    rintro e w2 ⟨rfl, k2⟩
    gi_wp2_with fail
    refine ⟨.tuple #[.slice none 0 0, .int .i64 20], ?_, _, 20, rfl, k1.trans k2, .inr (by decide)⟩
    simp [results, Tryz.results7, go_sem]
  | true =>
    rw [hmay] at hem
    rw [htab] at het
    have hmr := fun k => mostR_bound ((runsL L).take k) (fun p hp => ((edMay_run hmay).2 p (List.mem_of_mem_take hp)).2)
    refine calls_marks Tryz.func7 rfl ?_
    simp only [Tryz.ntmps7, List.size_toArray, List.length_cons, List.length_nil, Nat.reduceAdd, Nat.reduceSub, Array.replicate_succ, Array.replicate_zero, List.push_toArray, List.append_toArray, List.nil_append, List.cons_append]
    gi_wp2_with fail
    refine ⟨trivial, rfl, callsIn_wide.2 ((hem _ hs).mono ?_)⟩
    rintro e w1 ⟨rfl, k1⟩
    gi_wp2_with fail
    refine ⟨trivial, rfl, callsIn_wide.2 ((het _ (hs.same k1)).mono ?_)⟩
    rintro e w2 ⟨rfl, k2⟩
    have k12 := k1.trans k2
    gi_wp2_with fail
    refine ⟨trivial, rfl, callsIn_wide.2 ((hgr _).mono ?_)⟩
    rintro e w3 ⟨rfl, hbx, k3⟩
    simp only [World.size_alloc] at hbx
    have g4 := k3.heap (heap_alloc_new w2 (.cells #[.int .i64 0] 3)) (fun q => q)
    have k23 : Kept (fun _ => False) w2 w3 := ((Kept.refl _ w2).alloc _).trans k3
    have hw3 : w2.heap.size + 2 ≤ w3.heap.size := (Array.getElem?_eq_some_iff.1 hbx).1
    have hI0 : CntI L w2 w2.heap.size 0 (fun j => j = w2.heap.size) w3 := ⟨rfl, g4, k23⟩
    have hsw : EdS w3 (fun j => j = w2.heap.size) A L := hs.old.kept (k12.trans k23) (fun _ q => q.elim) (fun j q => .inr (by have := k12.size; omega))
    have K12 := Lib.hid k12
    have HMY := Lib.hid hmay
    have HTB := Lib.hid htab
    have HMR := Lib.hid hmr
    clear k1 k2 k3 g4 k23 k12 hem het hmr
    gi_wp2_with fail
    refine range_wp (gf := 56) (lb := #[.pointer (some ⟨w2.heap.size + 1, 0, none⟩)]) rfl (enters_of Tryz.func56 (by kernel_rfl) rfl)
      (groups1_iter (w2.heap.size + 1) L A c _ w3 hbx (by omega) hsw (by omega) hmay) (fun _ => rfl) tellG_kept handG_cells
      (CntI L w2 w2.heap.size) (fun _ _ _ _ => False) (cntI_stable L w2 _ (by omega)) (fun cd _ _ _ _ _ h _ _ => h) hI0 (fun j q => by omega)
      (fun v => { tmps := #[.slice A L.length c, undef, .slice none 0 0, .int .i64 0, .pointer (some ⟨w2.heap.size, 0, none⟩), undef, v.2, undef, undef, undef, undef, undef, .bool false, .slice A L.length c, .bool true, .bool false, .bool false, .slice A L.length c, .bool true, .bool false, .slice A L.length c, .func (.func 56) #[] #[.pointer (some ⟨w2.heap.size + 1, 0, none⟩)], v.1, v.2, undef, undef, undef, undef, undef, undef, undef, undef, undef, undef, undef, undef, undef, undef, undef, undef, undef, undef, undef, undef, undef, undef, undef, undef, undef, undef, undef, undef], defers := [] }) ?assign ?body ?done ?stop
    case assign =>
      intro l' v W' K hK
      unfold encG
      gi_wp2_with fail
      exact hK
    case body =>
      rintro l k p v O1 A1 ⟨rfl, h0, h5⟩ hxk ⟨ht1, ht2⟩ hlt hsA
      have hpm := List.mem_of_getElem? hxk
      obtain ⟨v1, v2⟩ := v
      obtain ⟨Af, cf, hv2, haf, hsf⟩ := ht2.asSrc encJ_len
      simp only at hv2
      subst hv2
      have kd := (Kept.refl (fun _ => False) A1).drew
      have hmo := most_any p.2 Af cf A1.drew (hsf.same kd) ((edMay_run HMY.out).2 p hpm).2
      have hS := HMR.out k
      have hS0 := mostR_pos ((runsL L).take k)
      have hm0 := mostZ_pos p.2
      have hm1 : mostZ p.2 ≤ 1073741824 := by
        obtain ⟨q1, _, q3⟩ := may_all ((edMay_run HMY.out).2 p hpm).2
        have := mostZ_bound p.2 (fun x hx => (q3 x hx).2.2.2.2)
        omega
      have htl : ((runsL L).take k).length ≤ 200 := by rw [List.length_take]; have := runs_len L; omega
      have htk : mostR ((runsL L).take (k + 1)) = mostR ((runsL L).take k) + mostZ p.2 := by rw [List.take_add_one, hxk]; exact mostR_snoc _ _
      obtain ⟨S, hSe⟩ : ∃ S, mostR ((runsL L).take k) = S := ⟨_, rfl⟩
      obtain ⟨m, hme⟩ : ∃ m, mostZ p.2 = m := ⟨_, rfl⟩
      rw [hSe] at h0 hS hS0 htk
      rw [hme] at hmo hm0 hm1 htk
      have hSb : S ≤ 214748364800 := by omega
      have hwr : IntKind.i64.wrap (S + m) = S + m := by rw [IntKind.wrap_i64]; omega
      have hd0 := kd.heap h0 (fun q => q)
      have c0 := cell_of_row _ _ 0 _ _ _ hd0
      simp only [List.getElem?_toArray, List.getElem?_cons_zero] at c0
      have FIN : Hid (∀ A2, Kept (fun _ => False) A1.drew A2 → Turn (handG (v1, .slice Af p.2.length cf)) (fun j => j = w2.heap.size) A1 (CntI L w2 w2.heap.size (k + 1)) (A2.setCell ⟨w2.heap.size, 0, none⟩ (.int .i64 (S + m)))) := fun A2 kA => by
        have kk := kd.trans kA
        have ks := (Kept.refl (fun j => j = w2.heap.size) A2).setCell (p := ⟨w2.heap.size, 0, none⟩) (fun _ => rfl) (.int .i64 (S + m))
        have hsz := ks.size
        have hsz2 := kk.size
        refine ⟨fun j => j = w2.heap.size, ⟨rfl, by rw [htk]; exact blk_set (kA.heap hd0 (fun q => q)) 0 _, (h5.trans kk).trans' ks (fun _ _ q => q) (fun j hj q => by omega)⟩, kk.trans' ks (fun _ _ q => q.elim) (fun _ _ q => q), fun j q => .inl q, fun j q => by have := hlt j q; omega⟩
      have HD0 := Lib.hid hd0
      clear hSe hme htk hS htl hd0 kd hxk hpm ht1 ht2 hsf hlt h0 h5 hI0 hsw
      gi_wp2_with fail
      refine region_inRound (by kernel_rfl) (by kernel_rfl) (by rintro ⟨_, _, h⟩; exact h) ?_
      refine wpAny_take (i := 1) (v := ?_) rfl (by kernel_rfl) (by kernel_rfl) (by kernel_rfl) (fun _ _ _ h => h) (Or.inl ⟨by rfl, ?_⟩) ?_
      rotate_left
      · (intro w; go_simp)
        try with_reducible rfl
      refine wpAny_ready (rs := [0, 2]) (by kernel_rfl) (by simp) ?_
      refine AllReady.cons rfl (fun K hK => ?_) ?_
      · skip
        go_simp
        refine hK _ _ ?_
        clear hK K
        refine wpAny_ready (rs := [2]) (by kernel_rfl) (by simp) ?_
        refine AllReady.cons rfl (fun K hK => ?_) AllReady.nil
        go_simp
        refine Calls.mono hmo ?_
        rintro e A2 ⟨rfl, kA⟩
        have c1 := kA.cell c0 (fun q => q)
        have f1 := frozen_of (kA.heap HD0.out (fun q => q)) 0
        have HT := Lib.hid (FIN.out A2 kA)
        clear kA
        refine hK _ _ ?_
        clear hK K
        refine wpAny_take (i := 3) (v := ?_) rfl (by kernel_rfl) (by kernel_rfl) (by kernel_rfl) (fun _ _ _ h => h) (Or.inl ⟨by rfl, ?_⟩) ?_
        rotate_left
        · (intro w; go_simp)
          try with_reducible rfl
        refine wpAny_ready (rs := [4]) (by kernel_rfl) (by simp) ?_
        refine AllReady.cons rfl (fun K hK => ?_) AllReady.nil
        go_simp
        refine hK _ _ ?_
        clear hK K
        refine wpAny_done (by kernel_rfl) ?_ _
        exact HT.out
      · skip
        refine AllReady.cons rfl (fun K hK => ?_) AllReady.nil
        go_simp
        refine Calls.mono hmo ?_
        rintro e A2 ⟨rfl, kA⟩
        have c1 := kA.cell c0 (fun q => q)
        have f1 := frozen_of (kA.heap HD0.out (fun q => q)) 0
        have HT := Lib.hid (FIN.out A2 kA)
        clear kA
        refine hK _ _ ?_
        clear hK K
        refine wpAny_ready (rs := [0]) (by kernel_rfl) (by simp) ?_
        refine AllReady.cons rfl (fun K hK => ?_) AllReady.nil
        go_simp
        refine hK _ _ ?_
        clear hK K
        refine wpAny_take (i := 3) (v := ?_) rfl (by kernel_rfl) (by kernel_rfl) (by kernel_rfl) (fun _ _ _ h => h) (Or.inl ⟨by rfl, ?_⟩) ?_
        rotate_left
        · (intro w; go_simp)
          try with_reducible rfl
        refine wpAny_ready (rs := [4]) (by kernel_rfl) (by simp) ?_
        refine AllReady.cons rfl (fun K hK => ?_) AllReady.nil
        go_simp
        refine hK _ _ ?_
        clear hK K
        refine wpAny_done (by kernel_rfl) ?_ _
        exact HT.out
    case done =>
      rintro D O1 W1 ⟨rfl, h0, h5⟩ hK hDw hDO
      rw [List.take_length] at h0
      have c0 := cell_of_row _ _ 0 _ _ _ h0
      simp only [List.getElem?_toArray, List.getElem?_cons_zero] at c0
      have hn0 := mostR_pos (runsL L)
      have hsum := spansR_len (runsL L)
      obtain ⟨N, hN⟩ : ∃ N, mostR (runsL L) = N := ⟨_, rfl⟩
      rw [hN] at c0 hn0 hsum
      have HMN := Lib.hid hN
      have kw1 := K12.out.trans h5
      clear h0 hI0 hsw hN
      by_cases hbig : 4096 < N
      · have hd : decide (4096 < N) = true := by simpa using hbig
        have kp := (Kept.refl (fun j => j = D) W1).putObj D (.deferred none) (fun _ => rfl)
        have KF := Lib.hid (kw1.trans' kp (fun _ _ q => q) (fun j hj q => by have := K12.out.size; omega))
        have HK := Lib.hid hK
        clear kp hK hDO
        gi_wp2_with fail
        refine ⟨by simp, .inl ⟨_, _, rfl, run_takeDeferred HK.out, .tuple #[.slice none 0 0, .int .i64 7], ?_, _, 7, rfl, KF.out, .inr (by decide)⟩⟩
        simp [results, Tryz.results7, go_sem]
      · have hd : decide (4096 < N) = false := by simpa using hbig
        obtain ⟨Cm, hmk, hnw⟩ := make_any (P := Tryz.prog) 37 45 (.agg #[.slice none 0 0, .int .i64 0, .int .i64 0]) 3 40 Tryz.underlying37 (by kernel_rfl) N.toNat N (by omega) (by unfold maxLen; omega) (by omega)
        have hnC := hnw PPc encPc W1
        have HK := Lib.hid hK
        have HNC := Lib.hid hnC
        have HW1 := Lib.hid kw1
        have hDl := (Array.getElem?_eq_some_iff.1 hK).1
        clear hK hDO hnw hnC kw1
        gi_wp2_with fail
        refine ⟨trivial, rfl, callsIn_wide.2 ((hgr _).mono ?_)⟩
        rintro e w5 ⟨rfl, hbx5, k5⟩
        simp only [World.size_alloc] at hbx5
        have q1 := heap_alloc_new (W1.alloc (.cells Cm 45)) (.cells #[.slice (some ⟨W1.heap.size, 0, none⟩) 0 N.toNat] 37)
        simp only [World.size_alloc] at q1
        have g7 := k5.heap q1 (fun q => q)
        have k15 : Kept (fun _ => False) W1 w5 := (((Kept.refl _ W1).alloc _).alloc _).trans k5
        have hrow0 := HNC.out.row.same (((Kept.refl (fun _ => False) _).alloc (.cells #[.slice (some ⟨W1.heap.size, 0, none⟩) 0 N.toNat] 37)).trans k5)
        have hw5 : W1.heap.size + 3 ≤ w5.heap.size := (Array.getElem?_eq_some_iff.1 hbx5).1
        have hI0 : PieI L W1 (W1.heap.size + 1) D 0 (PieO (W1.heap.size + 1) (.slice (some ⟨W1.heap.size, 0, none⟩) 0 N.toNat)) w5 := ⟨_, [], rfl, g7, hrow0, (fun j hj => (show W1.heap.size = j from by simpa [Value.ownBlock] using hj) ▸ Nat.le_refl _), rfl, k15, k15.heap HK.out (fun q => q)⟩
        have hO : ∀ j, PieO (W1.heap.size + 1) (.slice (some ⟨W1.heap.size, 0, none⟩) 0 N.toNat) j → W1.heap.size ≤ j ∧ j < W1.heap.size + 2 := by
          rintro j (q | q)
          · omega
          · have e : W1.heap.size = j := by simpa [Value.ownBlock] using q
            omega
        have hsz1 := HW1.out.size
        have hsw : EdS w5 (PieO (W1.heap.size + 1) (.slice (some ⟨W1.heap.size, 0, none⟩) 0 N.toNat)) A L :=
          hs.old.kept (HW1.out.trans k15) (fun _ q => q.elim) (fun j q => .inr (by have := hO j q; omega))
        clear q1 k5 k15 g7 hrow0
        gi_wp2_with fail
        refine range_wp (gf := 56) (lb := #[.pointer (some ⟨W1.heap.size + 1 + 1, 0, none⟩)]) rfl (enters_of Tryz.func56 (by kernel_rfl) rfl)
          (groups1_iter (W1.heap.size + 1 + 1) L A c _ w5 hbx5 (by omega) hsw (fun q => by have := hO _ q; omega) hmay) (fun _ => rfl) tellG_kept handG_cells
          (PieI L W1 (W1.heap.size + 1) D) (fun _ _ _ _ => False) (pieI_stable L W1 _ D (by omega) (by omega)) (fun cd _ _ _ _ _ h _ _ => h) hI0 (fun j q => by have := hO j q; omega)
          (fun v => { tmps := #[.slice A L.length c, undef, .slice none 0 0, .int .i64 0, .pointer (some ⟨w2.heap.size, 0, none⟩), undef, undef, .pointer (some ⟨W1.heap.size + 1, 0, none⟩), v.1, v.2, undef, undef, .bool false, .slice A L.length c, .bool true, .bool false, .bool false, .slice A L.length c, .bool true, .bool false, .slice A L.length c, .func (.func 56) #[] #[.pointer (some ⟨w2.heap.size + 1, 0, none⟩)], undef, undef, undef, undef, undef, undef, .int .i64 N, .bool false, .int .i64 N, .slice (some ⟨W1.heap.size, 0, none⟩) 0 N.toNat, .slice A L.length c, .func (.func 56) #[] #[.pointer (some ⟨W1.heap.size + 1 + 1, 0, none⟩)], v.1, v.2, undef, undef, undef, undef, undef, undef, undef, undef, undef, undef, undef, undef, undef, undef, undef, undef], defers := [] }) ?assign2 ?body2 ?done2 ?stop2
        case assign2 =>
          intro l' v W' K hK
          unfold encG
          gi_wp2_with fail
          exact hK
        case body2 =>
          rintro l k p v O1 A1 ⟨v0, P, rfl, h0, h1, h2, h3, h4, h6⟩ hxk ⟨ht1, ht2⟩ hlt hsA
          have hpm := List.mem_of_getElem? hxk
          obtain ⟨v1, v2⟩ := v
          obtain ⟨Ar, cr, hv1, har, _⟩ := ht1.asSrc encW_len
          obtain ⟨Af, cf, hv2, haf, hsf⟩ := ht2.asSrc encJ_len
          simp only at hv1 hv2
          subst hv1 hv2
          have htk : (runsL L).take (k + 1) = (runsL L).take k ++ [p] := by rw [List.take_add_one, hxk]; rfl
          have hp40 : mostZ p.2 ≤ 4096 := by
            have e1 := mostR_take (runsL L) (k + 1)
            rw [htk, mostR_snoc, HMN.out] at e1
            have := mostR_pos ((runsL L).take k)
            omega
          have hp8 : p.1.length ≤ 1048576 := by
            obtain ⟨⟨z, hz, hzr⟩, _⟩ := runs_mem hpm
            rw [hzr]; exact h8 z hz
          have hPl : P.length ≤ 4096 := by
            have e1 := congrArg List.length h3
            have e2 := spansR_len ((runsL L).take k)
            have e3 := mostR_take (runsL L) k
            rw [List.length_map] at e1
            rw [HMN.out] at e3
            omega
          have hsp := spans_any p.2 Af cf A1 hsf (edTab_run HTB.out p hpm) hp40
          have hSl := spansF_len p.2
          clear hI0 hsw hpm hxk hsf ht2 haf
          gi_wp2_with fail
          refine ⟨trivial, rfl, CallsIn.inRound l (callsIn_wide.2 (hsp.mono ?_))⟩
          rintro e A2 ⟨vs, rfl, hnS⟩
          obtain ⟨As, cs, rfl, _, _⟩ := hnS.shape
          have kA := hnS.kept
          obtain ⟨NS, hNS⟩ : ∃ NS, (spansF p.2).length = NS := ⟨_, rfl⟩
          have hNSl : NS ≤ 4096 := by omega
          have h0' := kA.heap h0 (fun q => q)
          have h1' := h1.same kA
          have hM0 : PieM A2 A2 (W1.heap.size + 1) v0 v0 P := ⟨h0', h1', fun j hj => .inl hj, Kept.refl _ _⟩
          obtain ⟨As', cs', e9, _, _, hsS⟩ := hnS.row.src encSp_len (fun j => j = W1.heap.size + 1 ∨ v0.ownBlock = some j) (fun j hj q => by
            rcases q with q | q
            · exact hnS.row.other h0' (by decide) (by rw [hj, q])
            · obtain ⟨cs9, hc9⟩ := row_cells h1' q
              exact hnS.row.other hc9 (by decide) hj)
          injection e9 with e91 e92 e93
          subst e91 e93
          clear e92
          obtain ⟨Ar', cr', e8, _, _, hsr⟩ := (ht1.same kA).src encW_len (fun j => j = W1.heap.size + 1 ∨ v0.ownBlock = some j) (fun j hj q => by
            rcases q with q | q
            · exact (ht1.same kA).other h0' (by decide) (by rw [hj, q])
            · obtain ⟨cs9, hc9⟩ := row_cells h1' q
              exact (ht1.same kA).other hc9 (by decide) hj)
          injection e8 with e81 e82 e83
          subst e81 e83
          clear e82
          rw [hNS]
          have HNS := Lib.hid hNS
          have HM0 := Lib.hid hM0
          have HSS := Lib.hid hsS
          have HSR := Lib.hid hsr
          have HOLD := Lib.hid (show _ ∧ _ ∧ _ ∧ _ ∧ _ ∧ _ ∧ _ ∧ _ from ⟨h0, h1, h2, h3, h4, h6, kA, hlt⟩)
          have HTK := Lib.hid htk
          have HRL := Lib.hid hp8
          have HARR := Lib.hid har
          obtain ⟨NR, hNR⟩ : ∃ NR, p.1.length = NR := ⟨_, rfl⟩
          rw [hNR]
          have HNR := Lib.hid hNR
          clear hNR hM0 hsS hsr hNS h0 h1 h2 h3 h4 h6 kA hlt htk hp8 har h0' h1' hnS hsp ht1
          gi_wp2_with fail
          gi_loopw [39] (fun iv wr => ∃ (j : Nat) (v : Value) (P' : List PPc), iv = .int .i64 j ∧ j ≤ NS ∧ Hid (PieM A2 wr (W1.heap.size + 1) v0 v P') ∧ Hid (P'.map PPc.sp = P.map PPc.sp ++ (spansF p.2).take j) ∧ P'.length = P.length + j) (fun iv _ => NS - (intOf iv).toNat)
          case atStart => exact ⟨0, v0, P, rfl, Nat.zero_le _, HM0, by unfold Hid; rw [List.take_zero, List.append_nil], rfl⟩
          case round =>
            obtain ⟨j, v, P', rfl, hjN, HM, HP', hPl'⟩ := hrel
            obtain ⟨wq, hwq⟩ : ∃ wq, wq = wr := ⟨_, rfl⟩
            subst hwq
            by_cases hlt2 : j < NS
            · obtain ⟨y, hy⟩ : ∃ y, (spansF p.2)[j]? = some y := ⟨(spansF p.2)[j]'(by rw [HNS.out]; exact hlt2), List.getElem?_eq_getElem _⟩
              obtain ⟨bS, oS, rfl, hbS, hcS⟩ := HSS.out j y hy
              have x0 := HM.out.kept.cell (hcS 0 _ rfl) hbS
              have x1 := HM.out.kept.cell (hcS 1 _ rfl) hbS
              have htk2 : (spansF p.2).take (j + 1) = (spansF p.2).take j ++ [y] := by rw [List.take_add_one, hy]; rfl
              obtain ⟨yf, yu⟩ := y
              simp only [Nat.add_zero] at x0 x1
              have HTK2 := Lib.hid htk2
              obtain ⟨Av, cv, rfl, _, _⟩ := HM.out.row.shape
              obtain ⟨NP, hNP⟩ : ∃ NP, P'.length = NP := ⟨_, rfl⟩
              rw [hNP] at HM
              have hNPl : NP ≤ 100000 := by have h9 := HNS.out; omega
              have HNP := Lib.hid (show P'.length = NP ∧ P'.length = P.length + j from ⟨hNP, hPl'⟩)
              have kal := (Kept.refl (fun _ => False) wq).alloc (.cells #[.int .i64 yf, .int .i64 yu] 41)
              have gal := heap_alloc_new wq (.cells #[.int .i64 yf, .int .i64 yu] 41)
              clear htk2 hy hcS hNP hPl'
              gi_wp2_with fail
              generalize hW7 : wq.alloc (.cells #[.int .i64 yf, .int .i64 yu] 41) = W7 at *
              clear hW7
              have kd := (Kept.refl (fun _ => False) W7).drew
              have hM7 := (HM.out.same kal).same kd
              have gd7 := kd.heap gal (fun q => q)
              have y0 := cell_of_row _ _ 0 _ _ _ gd7
              have y1 := cell_of_row _ _ 1 _ _ _ gd7
              have c7 := cell_of_row _ _ 0 _ _ _ hM7.box
              simp only [List.getElem?_toArray, List.getElem?_cons_zero, List.getElem?_cons_succ] at y0 y1 c7
              have hrc := rcopy_any p.1 Ar cr W7.drew HARR.out (HSR.out.kept hM7.kept (fun _ q => q) (fun _ q => q.elim)) HRL.out
              rw [HNR.out] at hrc
              have HM7 := Lib.hid hM7
              clear hM7 gd7 gal kal kd
              refine region_inRound (by kernel_rfl) (by kernel_rfl) (by rintro ⟨_, _, h⟩; exact h) ?_
              refine wpAny_take (i := 1) (v := ?_) rfl (by kernel_rfl) (by kernel_rfl) (by kernel_rfl) (fun _ _ _ h => h) (Or.inl ⟨by rfl, ?_⟩) ?_
              rotate_left
              · (intro w; go_simp)
                try with_reducible rfl
              refine wpAny_ready (rs := [0, 2, 3]) (by kernel_rfl) (by simp) ?_
              refine AllReady.cons rfl (fun K hK => ?_) ?_
              · skip
                go_simp
                refine hK _ _ ?_
                clear hK K
                refine wpAny_ready (rs := [2, 3]) (by kernel_rfl) (by simp) ?_
                refine AllReady.cons rfl (fun K hK => ?_) ?_
                · skip
                  go_simp
                  refine Calls.mono hrc ?_
                  rintro e w5 ⟨vr, rfl, hnr⟩
                  obtain ⟨Ar2, cr2, rfl, _, _⟩ := hnr.shape
                  rw [HNR.out]
                  have k8 := hnr.kept
                  have hM8 := HM7.out.same k8
                  have y0e := k8.cell y0 (fun q => q)
                  have y1e := k8.cell y1 (fun q => q)
                  have c7e := k8.cell c7 (fun q => q)
                  have kb8 := (Kept.refl (fun _ => False) w5).alloc (.cells #[.slice Ar2 NR cr2, .int .i64 yf, .int .i64 yu] 45)
                  have c7f := kb8.cell c7e (fun q => q)
                  obtain ⟨v', W8, hrun, ⟨A', n', c', rfl⟩, g7, hM9⟩ := pie_push ⟨Ar2, cr2, p.1, yf, yu⟩ hM8 (by have := HNP.out.1; omega)
                  simp only at hrun
                  rw [HNR.out] at hrun
                  have z7 := cell_of_row _ _ 0 _ _ _ g7
                  simp only [List.getElem?_toArray, List.getElem?_cons_zero] at z7
                  have f7 := frozen_of g7 0
                  have HM9 := Lib.hid hM9
                  clear hM9 g7 hM8 k8 kb8 hnr
                  refine hK _ _ ?_
                  clear hK K
                  refine wpAny_ready (rs := [3]) (by kernel_rfl) (by simp) ?_
                  refine AllReady.cons rfl (fun K hK => ?_) AllReady.nil
                  go_simp
                  refine hK _ _ ?_
                  clear hK K
                  refine wpAny_take (i := 4) (v := ?_) rfl (by kernel_rfl) (by kernel_rfl) (by kernel_rfl) (fun _ _ _ h => h) (Or.inl ⟨by rfl, ?_⟩) ?_
                  rotate_left
                  · (intro w; go_simp)
                    try with_reducible rfl
                  refine wpAny_ready (rs := [5]) (by kernel_rfl) (by simp) ?_
                  refine AllReady.cons rfl (fun K hK => ?_) AllReady.nil
                  go_simp
                  refine hK _ _ ?_
                  clear hK K
                  refine wpAny_ready (rs := [6]) (by kernel_rfl) (by simp) ?_
                  refine AllReady.cons rfl (fun K hK => ?_) AllReady.nil
                  refine step_run2 rfl _ _ _ _ rfl rfl rfl hrun ?_
                  refine hK _ _ ?_
                  clear hK K
                  refine wpAny_ready (rs := [7]) (by kernel_rfl) (by simp) ?_
                  refine AllReady.cons rfl (fun K hK => ?_) AllReady.nil
                  go_simp
                  refine hK _ _ ?_
                  clear hK K
                  refine wpAny_done (by kernel_rfl) ?_ _
                  gi_wp2_with fail
                  go_roundw
                  case rel =>
                    refine ⟨j + 1, _, P' ++ [⟨Ar2, cr2, p.1, yf, yu⟩], int_eq (by omega), by omega, HM9, ?_, by rw [List.length_append, HNP.out.2]; rfl⟩
                    unfold Hid
                    rw [List.map_append, HP'.out, HTK2.out, List.append_assoc]
                    rfl
                  case measure => simp [intOf]; omega
                · skip
                  refine AllReady.cons rfl (fun K hK => ?_) AllReady.nil
                  go_simp
                  refine hK _ _ ?_
                  clear hK K
                  refine wpAny_ready (rs := [2]) (by kernel_rfl) (by simp) ?_
                  refine AllReady.cons rfl (fun K hK => ?_) AllReady.nil
                  go_simp
                  refine Calls.mono hrc ?_
                  rintro e w5 ⟨vr, rfl, hnr⟩
                  obtain ⟨Ar2, cr2, rfl, _, _⟩ := hnr.shape
                  rw [HNR.out]
                  have k8 := hnr.kept
                  have hM8 := HM7.out.same k8
                  have y0e := k8.cell y0 (fun q => q)
                  have y1e := k8.cell y1 (fun q => q)
                  have c7e := k8.cell c7 (fun q => q)
                  have kb8 := (Kept.refl (fun _ => False) w5).alloc (.cells #[.slice Ar2 NR cr2, .int .i64 yf, .int .i64 yu] 45)
                  have c7f := kb8.cell c7e (fun q => q)
                  obtain ⟨v', W8, hrun, ⟨A', n', c', rfl⟩, g7, hM9⟩ := pie_push ⟨Ar2, cr2, p.1, yf, yu⟩ hM8 (by have := HNP.out.1; omega)
                  simp only at hrun
                  rw [HNR.out] at hrun
                  have z7 := cell_of_row _ _ 0 _ _ _ g7
                  simp only [List.getElem?_toArray, List.getElem?_cons_zero] at z7
                  have f7 := frozen_of g7 0
                  have HM9 := Lib.hid hM9
                  clear hM9 g7 hM8 k8 kb8 hnr
                  refine hK _ _ ?_
                  clear hK K
                  refine wpAny_take (i := 4) (v := ?_) rfl (by kernel_rfl) (by kernel_rfl) (by kernel_rfl) (fun _ _ _ h => h) (Or.inl ⟨by rfl, ?_⟩) ?_
                  rotate_left
                  · (intro w; go_simp)
                    try with_reducible rfl
                  refine wpAny_ready (rs := [5]) (by kernel_rfl) (by simp) ?_
                  refine AllReady.cons rfl (fun K hK => ?_) AllReady.nil
                  go_simp
                  refine hK _ _ ?_
                  clear hK K
                  refine wpAny_ready (rs := [6]) (by kernel_rfl) (by simp) ?_
                  refine AllReady.cons rfl (fun K hK => ?_) AllReady.nil
                  refine step_run2 rfl _ _ _ _ rfl rfl rfl hrun ?_
                  refine hK _ _ ?_
                  clear hK K
                  refine wpAny_ready (rs := [7]) (by kernel_rfl) (by simp) ?_
                  refine AllReady.cons rfl (fun K hK => ?_) AllReady.nil
                  go_simp
                  refine hK _ _ ?_
                  clear hK K
                  refine wpAny_done (by kernel_rfl) ?_ _
                  gi_wp2_with fail
                  go_roundw
                  case rel =>
                    refine ⟨j + 1, _, P' ++ [⟨Ar2, cr2, p.1, yf, yu⟩], int_eq (by omega), by omega, HM9, ?_, by rw [List.length_append, HNP.out.2]; rfl⟩
                    unfold Hid
                    rw [List.map_append, HP'.out, HTK2.out, List.append_assoc]
                    rfl
                  case measure => simp [intOf]; omega
              · skip
                refine AllReady.cons rfl (fun K hK => ?_) ?_
                · skip
                  go_simp
                  refine Calls.mono hrc ?_
                  rintro e w5 ⟨vr, rfl, hnr⟩
                  obtain ⟨Ar2, cr2, rfl, _, _⟩ := hnr.shape
                  rw [HNR.out]
                  have k8 := hnr.kept
                  have hM8 := HM7.out.same k8
                  have y0e := k8.cell y0 (fun q => q)
                  have y1e := k8.cell y1 (fun q => q)
                  have c7e := k8.cell c7 (fun q => q)
                  have kb8 := (Kept.refl (fun _ => False) w5).alloc (.cells #[.slice Ar2 NR cr2, .int .i64 yf, .int .i64 yu] 45)
                  have c7f := kb8.cell c7e (fun q => q)
                  obtain ⟨v', W8, hrun, ⟨A', n', c', rfl⟩, g7, hM9⟩ := pie_push ⟨Ar2, cr2, p.1, yf, yu⟩ hM8 (by have := HNP.out.1; omega)
                  simp only at hrun
                  rw [HNR.out] at hrun
                  have z7 := cell_of_row _ _ 0 _ _ _ g7
                  simp only [List.getElem?_toArray, List.getElem?_cons_zero] at z7
                  have f7 := frozen_of g7 0
                  have HM9 := Lib.hid hM9
                  clear hM9 g7 hM8 k8 kb8 hnr
                  refine hK _ _ ?_
                  clear hK K
                  refine wpAny_ready (rs := [0, 3]) (by kernel_rfl) (by simp) ?_
                  refine AllReady.cons rfl (fun K hK => ?_) ?_
                  · skip
                    go_simp
                    refine hK _ _ ?_
                    clear hK K
                    refine wpAny_ready (rs := [3]) (by kernel_rfl) (by simp) ?_
                    refine AllReady.cons rfl (fun K hK => ?_) AllReady.nil
                    go_simp
                    refine hK _ _ ?_
                    clear hK K
                    refine wpAny_take (i := 4) (v := ?_) rfl (by kernel_rfl) (by kernel_rfl) (by kernel_rfl) (fun _ _ _ h => h) (Or.inl ⟨by rfl, ?_⟩) ?_
                    rotate_left
                    · (intro w; go_simp)
                      try with_reducible rfl
                    refine wpAny_ready (rs := [5]) (by kernel_rfl) (by simp) ?_
                    refine AllReady.cons rfl (fun K hK => ?_) AllReady.nil
                    go_simp
                    refine hK _ _ ?_
                    clear hK K
                    refine wpAny_ready (rs := [6]) (by kernel_rfl) (by simp) ?_
                    refine AllReady.cons rfl (fun K hK => ?_) AllReady.nil
                    refine step_run2 rfl _ _ _ _ rfl rfl rfl hrun ?_
                    refine hK _ _ ?_
                    clear hK K
                    refine wpAny_ready (rs := [7]) (by kernel_rfl) (by simp) ?_
                    refine AllReady.cons rfl (fun K hK => ?_) AllReady.nil
                    go_simp
                    refine hK _ _ ?_
                    clear hK K
                    refine wpAny_done (by kernel_rfl) ?_ _
                    gi_wp2_with fail
                    go_roundw
                    case rel =>
                      refine ⟨j + 1, _, P' ++ [⟨Ar2, cr2, p.1, yf, yu⟩], int_eq (by omega), by omega, HM9, ?_, by rw [List.length_append, HNP.out.2]; rfl⟩
                      unfold Hid
                      rw [List.map_append, HP'.out, HTK2.out, List.append_assoc]
                      rfl
                    case measure => simp [intOf]; omega
                  · skip
                    refine AllReady.cons rfl (fun K hK => ?_) AllReady.nil
                    go_simp
                    refine hK _ _ ?_
                    clear hK K
                    refine wpAny_take (i := 4) (v := ?_) rfl (by kernel_rfl) (by kernel_rfl) (by kernel_rfl) (fun _ _ _ h => h) (Or.inl ⟨by rfl, ?_⟩) ?_
                    rotate_left
                    · (intro w; go_simp)
                      try with_reducible rfl
                    refine wpAny_ready (rs := [0, 5]) (by kernel_rfl) (by simp) ?_
                    refine AllReady.cons rfl (fun K hK => ?_) ?_
                    · skip
                      go_simp
                      refine hK _ _ ?_
                      clear hK K
                      refine wpAny_ready (rs := [5]) (by kernel_rfl) (by simp) ?_
                      refine AllReady.cons rfl (fun K hK => ?_) AllReady.nil
                      go_simp
                      refine hK _ _ ?_
                      clear hK K
                      refine wpAny_ready (rs := [6]) (by kernel_rfl) (by simp) ?_
                      refine AllReady.cons rfl (fun K hK => ?_) AllReady.nil
                      refine step_run2 rfl _ _ _ _ rfl rfl rfl hrun ?_
                      refine hK _ _ ?_
                      clear hK K
                      refine wpAny_ready (rs := [7]) (by kernel_rfl) (by simp) ?_
                      refine AllReady.cons rfl (fun K hK => ?_) AllReady.nil
                      go_simp
                      refine hK _ _ ?_
                      clear hK K
                      refine wpAny_done (by kernel_rfl) ?_ _
                      gi_wp2_with fail
                      go_roundw
                      case rel =>
                        refine ⟨j + 1, _, P' ++ [⟨Ar2, cr2, p.1, yf, yu⟩], int_eq (by omega), by omega, HM9, ?_, by rw [List.length_append, HNP.out.2]; rfl⟩
                        unfold Hid
                        rw [List.map_append, HP'.out, HTK2.out, List.append_assoc]
                        rfl
                      case measure => simp [intOf]; omega
                    · skip
                      refine AllReady.cons rfl (fun K hK => ?_) AllReady.nil
                      go_simp
                      refine hK _ _ ?_
                      clear hK K
                      refine wpAny_ready (rs := [0]) (by kernel_rfl) (by simp) ?_
                      refine AllReady.cons rfl (fun K hK => ?_) AllReady.nil
                      go_simp
                      refine hK _ _ ?_
                      clear hK K
                      refine wpAny_ready (rs := [6]) (by kernel_rfl) (by simp) ?_
                      refine AllReady.cons rfl (fun K hK => ?_) AllReady.nil
                      refine step_run2 rfl _ _ _ _ rfl rfl rfl hrun ?_
                      refine hK _ _ ?_
                      clear hK K
                      refine wpAny_ready (rs := [7]) (by kernel_rfl) (by simp) ?_
                      refine AllReady.cons rfl (fun K hK => ?_) AllReady.nil
                      go_simp
                      refine hK _ _ ?_
                      clear hK K
                      refine wpAny_done (by kernel_rfl) ?_ _
                      gi_wp2_with fail
                      go_roundw
                      case rel =>
                        refine ⟨j + 1, _, P' ++ [⟨Ar2, cr2, p.1, yf, yu⟩], int_eq (by omega), by omega, HM9, ?_, by rw [List.length_append, HNP.out.2]; rfl⟩
                        unfold Hid
                        rw [List.map_append, HP'.out, HTK2.out, List.append_assoc]
                        rfl
                      case measure => simp [intOf]; omega
                · skip
                  refine AllReady.cons rfl (fun K hK => ?_) AllReady.nil
                  go_simp
                  refine hK _ _ ?_
                  clear hK K
                  refine wpAny_ready (rs := [0, 2]) (by kernel_rfl) (by simp) ?_
                  refine AllReady.cons rfl (fun K hK => ?_) ?_
                  · skip
                    go_simp
                    refine hK _ _ ?_
                    clear hK K
                    refine wpAny_ready (rs := [2]) (by kernel_rfl) (by simp) ?_
                    refine AllReady.cons rfl (fun K hK => ?_) AllReady.nil
                    go_simp
                    refine Calls.mono hrc ?_
                    rintro e w5 ⟨vr, rfl, hnr⟩
                    obtain ⟨Ar2, cr2, rfl, _, _⟩ := hnr.shape
                    rw [HNR.out]
                    have k8 := hnr.kept
                    have hM8 := HM7.out.same k8
                    have y0e := k8.cell y0 (fun q => q)
                    have y1e := k8.cell y1 (fun q => q)
                    have c7e := k8.cell c7 (fun q => q)
                    have kb8 := (Kept.refl (fun _ => False) w5).alloc (.cells #[.slice Ar2 NR cr2, .int .i64 yf, .int .i64 yu] 45)
                    have c7f := kb8.cell c7e (fun q => q)
                    obtain ⟨v', W8, hrun, ⟨A', n', c', rfl⟩, g7, hM9⟩ := pie_push ⟨Ar2, cr2, p.1, yf, yu⟩ hM8 (by have := HNP.out.1; omega)
                    simp only at hrun
                    rw [HNR.out] at hrun
                    have z7 := cell_of_row _ _ 0 _ _ _ g7
                    simp only [List.getElem?_toArray, List.getElem?_cons_zero] at z7
                    have f7 := frozen_of g7 0
                    have HM9 := Lib.hid hM9
                    clear hM9 g7 hM8 k8 kb8 hnr
                    refine hK _ _ ?_
                    clear hK K
                    refine wpAny_take (i := 4) (v := ?_) rfl (by kernel_rfl) (by kernel_rfl) (by kernel_rfl) (fun _ _ _ h => h) (Or.inl ⟨by rfl, ?_⟩) ?_
                    rotate_left
                    · (intro w; go_simp)
                      try with_reducible rfl
                    refine wpAny_ready (rs := [5]) (by kernel_rfl) (by simp) ?_
                    refine AllReady.cons rfl (fun K hK => ?_) AllReady.nil
                    go_simp
                    refine hK _ _ ?_
                    clear hK K
                    refine wpAny_ready (rs := [6]) (by kernel_rfl) (by simp) ?_
                    refine AllReady.cons rfl (fun K hK => ?_) AllReady.nil
                    refine step_run2 rfl _ _ _ _ rfl rfl rfl hrun ?_
                    refine hK _ _ ?_
                    clear hK K
                    refine wpAny_ready (rs := [7]) (by kernel_rfl) (by simp) ?_
                    refine AllReady.cons rfl (fun K hK => ?_) AllReady.nil
                    go_simp
                    refine hK _ _ ?_
                    clear hK K
                    refine wpAny_done (by kernel_rfl) ?_ _
                    gi_wp2_with fail
                    go_roundw
                    case rel =>
                      refine ⟨j + 1, _, P' ++ [⟨Ar2, cr2, p.1, yf, yu⟩], int_eq (by omega), by omega, HM9, ?_, by rw [List.length_append, HNP.out.2]; rfl⟩
                      unfold Hid
                      rw [List.map_append, HP'.out, HTK2.out, List.append_assoc]
                      rfl
                    case measure => simp [intOf]; omega
                  · skip
                    refine AllReady.cons rfl (fun K hK => ?_) AllReady.nil
                    go_simp
                    refine Calls.mono hrc ?_
                    rintro e w5 ⟨vr, rfl, hnr⟩
                    obtain ⟨Ar2, cr2, rfl, _, _⟩ := hnr.shape
                    rw [HNR.out]
                    have k8 := hnr.kept
                    have hM8 := HM7.out.same k8
                    have y0e := k8.cell y0 (fun q => q)
                    have y1e := k8.cell y1 (fun q => q)
                    have c7e := k8.cell c7 (fun q => q)
                    have kb8 := (Kept.refl (fun _ => False) w5).alloc (.cells #[.slice Ar2 NR cr2, .int .i64 yf, .int .i64 yu] 45)
                    have c7f := kb8.cell c7e (fun q => q)
                    obtain ⟨v', W8, hrun, ⟨A', n', c', rfl⟩, g7, hM9⟩ := pie_push ⟨Ar2, cr2, p.1, yf, yu⟩ hM8 (by have := HNP.out.1; omega)
                    simp only at hrun
                    rw [HNR.out] at hrun
                    have z7 := cell_of_row _ _ 0 _ _ _ g7
                    simp only [List.getElem?_toArray, List.getElem?_cons_zero] at z7
                    have f7 := frozen_of g7 0
                    have HM9 := Lib.hid hM9
                    clear hM9 g7 hM8 k8 kb8 hnr
                    refine hK _ _ ?_
                    clear hK K
                    refine wpAny_take (i := 4) (v := ?_) rfl (by kernel_rfl) (by kernel_rfl) (by kernel_rfl) (fun _ _ _ h => h) (Or.inl ⟨by rfl, ?_⟩) ?_
                    rotate_left
                    · (intro w; go_simp)
                      try with_reducible rfl
                    refine wpAny_ready (rs := [0, 5]) (by kernel_rfl) (by simp) ?_
                    refine AllReady.cons rfl (fun K hK => ?_) ?_
                    · skip
                      go_simp
                      refine hK _ _ ?_
                      clear hK K
                      refine wpAny_ready (rs := [5]) (by kernel_rfl) (by simp) ?_
                      refine AllReady.cons rfl (fun K hK => ?_) AllReady.nil
                      go_simp
                      refine hK _ _ ?_
                      clear hK K
                      refine wpAny_ready (rs := [6]) (by kernel_rfl) (by simp) ?_
                      refine AllReady.cons rfl (fun K hK => ?_) AllReady.nil
                      refine step_run2 rfl _ _ _ _ rfl rfl rfl hrun ?_
                      refine hK _ _ ?_
                      clear hK K
                      refine wpAny_ready (rs := [7]) (by kernel_rfl) (by simp) ?_
                      refine AllReady.cons rfl (fun K hK => ?_) AllReady.nil
                      go_simp
                      refine hK _ _ ?_
                      clear hK K
                      refine wpAny_done (by kernel_rfl) ?_ _
                      gi_wp2_with fail
                      go_roundw
                      case rel =>
                        refine ⟨j + 1, _, P' ++ [⟨Ar2, cr2, p.1, yf, yu⟩], int_eq (by omega), by omega, HM9, ?_, by rw [List.length_append, HNP.out.2]; rfl⟩
                        unfold Hid
                        rw [List.map_append, HP'.out, HTK2.out, List.append_assoc]
                        rfl
                      case measure => simp [intOf]; omega
                    · skip
                      refine AllReady.cons rfl (fun K hK => ?_) AllReady.nil
                      go_simp
                      refine hK _ _ ?_
                      clear hK K
                      refine wpAny_ready (rs := [0]) (by kernel_rfl) (by simp) ?_
                      refine AllReady.cons rfl (fun K hK => ?_) AllReady.nil
                      go_simp
                      refine hK _ _ ?_
                      clear hK K
                      refine wpAny_ready (rs := [6]) (by kernel_rfl) (by simp) ?_
                      refine AllReady.cons rfl (fun K hK => ?_) AllReady.nil
                      refine step_run2 rfl _ _ _ _ rfl rfl rfl hrun ?_
                      refine hK _ _ ?_
                      clear hK K
                      refine wpAny_ready (rs := [7]) (by kernel_rfl) (by simp) ?_
                      refine AllReady.cons rfl (fun K hK => ?_) AllReady.nil
                      go_simp
                      refine hK _ _ ?_
                      clear hK K
                      refine wpAny_done (by kernel_rfl) ?_ _
                      gi_wp2_with fail
                      go_roundw
                      case rel =>
                        refine ⟨j + 1, _, P' ++ [⟨Ar2, cr2, p.1, yf, yu⟩], int_eq (by omega), by omega, HM9, ?_, by rw [List.length_append, HNP.out.2]; rfl⟩
                        unfold Hid
                        rw [List.map_append, HP'.out, HTK2.out, List.append_assoc]
                        rfl
                      case measure => simp [intOf]; omega
            · have hjn : j = NS := by omega
              have HT : Hid (Turn (handG (.slice Ar p.1.length cr, .slice Af p.2.length cf)) (PieO (W1.heap.size + 1) v0) A1 (PieI L W1 (W1.heap.size + 1) D (k + 1)) wq) := by
                obtain ⟨h0, h1, h2, h3, h4, h6, kA, hlt⟩ := HOLD.out
                have hMo := HM.out
                have hkk : Kept (PieO (W1.heap.size + 1) v0) A1 wq := kA.trans' hMo.kept (fun _ _ q => q.elim) (fun _ _ q => q)
                have hsz := h4.size
                have hszA := kA.size
                refine ⟨PieO (W1.heap.size + 1) v, ⟨v, P', rfl, hMo.box, hMo.row, fun jj hj => ?_, ?_, h4.trans' hkk (fun _ _ q => q) (fun jj hj q => ?_), hkk.heap h6 (fun q => ?_)⟩, hkk, fun jj q => ?_, fun jj q => ?_⟩
                · rcases hMo.own jj hj with e | e
                  · exact h2 jj e
                  · omega
                · rw [HTK.out, HP'.out, hjn, ← HNS.out, List.take_length, h3]
                  unfold spansR
                  rw [List.flatMap_append, List.flatMap_singleton]
                · rcases q with q | q
                  · omega
                  · have := h2 jj q; omega
                · rcases q with q | q
                  · rw [q, h0] at h6; cases h6
                  · exact h1.otherObj h6 (fun _ _ _ q => by cases q) q
                · rcases q with q | q
                  · exact .inl (.inl q)
                  · rcases hMo.own jj q with e | e
                    · exact .inl (.inr e)
                    · exact .inr (.inl (by omega))
                · rcases q with q | q
                  · have := (Array.getElem?_eq_some_iff.1 hMo.box).1; omega
                  · exact hMo.row.lt jj q
              gi_wp2_with fail
              exact HT.out
        case done2 =>
          rintro D2 O2 W2 ⟨v0, P, rfl, h0, h1, h2, h3, h4, h6⟩ hK2 hDw2 hDO2
          rw [List.take_length] at h3
          obtain ⟨A0, e0, rfl, _, _⟩ := h1.shape
          have c7 := cell_of_row _ _ 0 _ _ _ h0
          simp only [List.getElem?_toArray, List.getElem?_cons_zero] at c7
          have kp1 := (Kept.refl (fun j => j = D2) W2).putObj D2 (.deferred none) (fun _ => rfl)
          have h6' := kp1.heap h6 (by omega)
          have kp2 := (Kept.refl (fun j => j = D) (W2.putObj D2 (.deferred none))).putObj D (.deferred none) (fun _ => rfl)
          have hno : ∀ cs T f, (Obj.deferred (some [])) ≠ .cells cs T f := fun _ _ _ q => by cases q
          have hr1 := h1.kept kp1 (fun j hj q => h1.otherObj hK2 hno (by rw [hj, q]))
          have hr2 := hr1.kept kp2 (fun j hj q => hr1.otherObj h6' hno (by rw [hj, q]))
          have hsw := HW1.out.size
          have hs4 := h4.size
          have kf : Kept (fun _ => False) w ((W2.putObj D2 (.deferred none)).putObj D (.deferred none)) := ((HW1.out.trans h4).trans' kp1 (fun _ _ q => q) (fun j hj q => by omega)).trans' kp2 (fun _ _ q => q) (fun j hj q => by have := K12.out.size; omega)
          have hPl : P.length ≤ 4096 := by
            have e1 := congrArg List.length h3
            rw [List.length_map] at e1
            omega
          have HK2 := Lib.hid hK2
          have H6 := Lib.hid h6'
          have HF := Lib.hid (show Kept (fun _ => False) w ((W2.putObj D2 (.deferred none)).putObj D (.deferred none)) ∧ ((0 : Int) = 0 ∧ ∃ P' : List PPc, Row encPc 3 45 ((W2.putObj D2 (.deferred none)).putObj D (.deferred none)) (.slice A0 P.length e0) P' ∧ P'.length ≤ 4096 ∧ ∀ t, t < 1125899906842624 → cntS (P'.map PPc.sp) t = cntE L t) from ⟨kf, rfl, P, hr2, hPl, fun t ht => by rw [h3, spansR_cnt t ht _ (edTab_run HTB.out), cntE_runs]⟩)
          clear h0 h1 h2 h3 h4 h6 h6' kp1 kp2 hr1 hr2 kf hK2 hDO2 hI0
          gi_wp2_with fail
          refine ⟨by simp, .inl ⟨_, _, rfl, run_takeDeferred HK2.out, ?_⟩⟩
          refine ⟨by simp, .inl ⟨_, _, rfl, run_takeDeferred H6.out, ?_⟩⟩
          refine ⟨.tuple #[.slice A0 P.length e0, .int .i64 0], ?_, _, 0, rfl, HF.out.1, .inl ⟨rfl, HF.out.2.2⟩⟩
          simp [results, Tryz.results7, go_sem]
        case stop2 =>
          intro D cd k O1 W1 hkl h
          exact h.elim
    case stop =>
      intro D cd k O1 W1 hkl h
      exact h.elim
end Go.Proofs.YthkeigljiinlbaaGreat
