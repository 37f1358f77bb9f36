/- linear.Filter. -/
import Derived.Test.YtballmombklalaaGreatM36
namespace Go.Proofs.YtballmombklalaaGreat
open Go.RowKit
attribute [local go_sem] Oper.semAt_some

/-- What Filter owns between rounds. -/
def FilO (n ob : Nat) (v : Value) (M : List PE) : Nat → Prop := fun j => j = n + 1 ∨ j = n + 1 + 1 ∨ j = ob ∨ v.ownBlock = some j ∨ ∃ p ∈ M, (slE p).ownBlock = some j
/-- Between the rounds, and behind the one that leaves. -/
def FilI (L : List Ed) (x : List Wd) (B : Option Addr) (d : Nat) (w : World) (ob : Nat) (k : Nat) (O : Nat → Prop) (W : World) : Prop :=
  ∃ (v : Value) (M : List PE), O = FilO w.heap.size ob v M ∧ W.heap[w.heap.size]? = some (.cells #[.slice B x.length d] 26 (0, 0)) ∧ W.heap[w.heap.size + 1]? = some (.cells #[.slice none 0 0] 24 (0, 0)) ∧
    W.heap[w.heap.size + 1 + 1]? = some (.cells #[.int .i64 0] 27 (0, 0)) ∧ W.heap[ob]? = some (.cells #[v] 24 (0, 0)) ∧ EdN w W v M ∧ M.map Prod.snd = filL x ((runsL L).take k) ∧ ∀ i p, i < k → (runsL L)[i]? = some p → (holdsS x p.1).2 = 0
def FilX (L : List Ed) (x : List Wd) (w : World) (c : Code) (k : Nat) (_ : Nat → Prop) (W : World) : Prop :=
  ∃ p, (runsL L)[k]? = some p ∧ (holdsS x p.1).2 ≠ 0 ∧ (∀ i q, i < k → (runsL L)[i]? = some q → (holdsS x q.1).2 = 0) ∧ c = .ret ∧ W.heap[w.heap.size + 1]? = some (.cells #[.slice none 0 0] 24 (0, 0)) ∧
    W.heap[w.heap.size + 1 + 1]? = some (.cells #[.int .i64 (holdsS x p.1).2] 27 (0, 0)) ∧ Kept (fun _ => False) w W
theorem filI_stable (L : List Ed) (x : List Wd) (B : Option Addr) (d : Nat) (w : World) (ob : Nat) {s : Nat} (hs : w.heap.size + 3 ≤ s) : Stable s (FilI L x B d w ob) := by
  rintro k O A C X ⟨v, M, rfl, h0, h1, h2, h3, h4, h5, h6⟩ hX hXX
  refine ⟨v, M, rfl, hX.heap h0 (fun q => by have := (hXX _ q).1; omega), hX.heap h1 (fun q => by have := (hXX _ q).1; omega), hX.heap h2 (fun q => by have := (hXX _ q).1; omega), hX.heap h3 (fun q => (hXX _ q).2 (.inr (.inr (.inl rfl)))), ?_, h5, h6⟩
  exact h4.keptX hX (fun j q => by have := (hXX _ q).1; omega) (fun j hj q => (hXX _ q).2 (.inr (.inr (.inr (.inl hj))))) (fun p hp j hj q => (hXX _ q).2 (.inr (.inr (.inr (.inr ⟨p, hp, hj⟩)))))
theorem filX_stable (L : List Ed) (x : List Wd) (w : World) (c : Code) {s : Nat} (hs : w.heap.size + 3 ≤ s) : Stable s (FilX L x w c) := by
  rintro k O A C X ⟨p, h0, h1, h2, rfl, h3, h4, h5⟩ hX hXX
  exact ⟨p, h0, h1, h2, rfl, hX.heap h3 (fun q => by have := (hXX _ q).1; omega), hX.heap h4 (fun q => by have := (hXX _ q).1; omega), h5.trans' hX (fun _ _ q => q) (fun j hj q => by have := (hXX _ q).1; omega)⟩

/-- Both results are stored. -/
theorem two_res {w W : World} {n : Nat} (hn : w.heap.size ≤ n) (h1 : W.heap[n]? = some (.cells #[.slice none 0 0] 24 (0, 0))) (h2 : W.heap[n + 1]? = some (.cells #[.int .i64 0] 27 (0, 0))) (k : Kept (fun _ => False) w W) (v : Value) (e : Int) :
    ((W.setCell ⟨n, 0, none⟩ v).setCell ⟨n + 1, 0, none⟩ (.int .i64 e)).heap[n]? = some (.cells #[v] 24 (0, 0)) ∧ ((W.setCell ⟨n, 0, none⟩ v).setCell ⟨n + 1, 0, none⟩ (.int .i64 e)).heap[n + 1]? = some (.cells #[.int .i64 e] 27 (0, 0)) ∧
    Kept (fun j => j = n ∨ j = n + 1) W ((W.setCell ⟨n, 0, none⟩ v).setCell ⟨n + 1, 0, none⟩ (.int .i64 e)) ∧ Kept (fun _ => False) w ((W.setCell ⟨n, 0, none⟩ v).setCell ⟨n + 1, 0, none⟩ (.int .i64 e)) := by
  have kb := ((Kept.refl (fun j => j = n ∨ j = n + 1) W).setCell (p := ⟨n, 0, none⟩) (fun _ => .inl rfl) v).setCell (p := ⟨n + 1, 0, none⟩) (fun _ => .inr rfl) (.int .i64 e)
  refine ⟨?_, ?_, kb, k.trans' kb (fun _ _ q => q) (fun j hj q => by omega)⟩
  · exact blk_set_other (blk_set h1 0 v) (p := ⟨n + 1, 0, none⟩) (by simp) _
  · exact blk_set (blk_set_other h2 (p := ⟨n, 0, none⟩) (by simp) v) 0 (.int .i64 e)

/-- A round that takes its rows. -/
theorem fil_turn {L : List Ed} {x : List Wd} {B : Option Addr} {d : Nat} {w A1 A2 W : World} {ob k : Nat} {v0 v' : Value} {M M2 : List PE} {p : List Wd × List Jp} {X : Nat → Prop} (hob : w.heap.size + 2 < ob)
    (h0 : A1.heap[w.heap.size]? = some (.cells #[.slice B x.length d] 26 (0, 0))) (h1 : A1.heap[w.heap.size + 1]? = some (.cells #[.slice none 0 0] 24 (0, 0))) (h2 : A1.heap[w.heap.size + 1 + 1]? = some (.cells #[.int .i64 0] 27 (0, 0)))
    (h3 : A1.heap[ob]? = some (.cells #[v0] 24 (0, 0))) (h4 : EdN w A1 v0 M) (h5 : M.map Prod.snd = filL x ((runsL L).take k)) (h6 : ∀ i p, i < k → (runsL L)[i]? = some p → (holdsS x p.1).2 = 0)
    (hx : (runsL L)[k]? = some p) (hb : (holdsS x p.1).1 = true) (he : (holdsS x p.1).2 = 0) (kA : Kept (fun _ => False) A1 A2) (hE : EdN w W v' (M ++ M2)) (hk : Kept (fun j => v0.ownBlock = some j) A2 W)
    (hg1 : ∀ j, v'.ownBlock = some j → v0.ownBlock = some j ∨ A2.heap.size ≤ j) (hg2 : ∀ p ∈ M2, ∀ j, (slE p).ownBlock = some j → A2.heap.size ≤ j) (hm : M2.map Prod.snd = putL p.1 p.2) (hlt : ∀ j, FilO w.heap.size ob v0 M j → j < A1.heap.size) :
    Turn X (FilO w.heap.size ob v0 M) A1 (FilI L x B d w ob (k + 1)) (W.setCell ⟨ob, 0, none⟩ v') := by
  have hkk : Kept (fun j => v0.ownBlock = some j) A1 W := kA.trans' hk (fun _ _ q => q.elim) (fun _ _ q => q)
  have g0 := hkk.heap h0 (fun q => h4.row.other h0 (by decide) q)
  have g1 := hkk.heap h1 (fun q => h4.row.other h1 (by decide) q)
  have g2 := hkk.heap h2 (fun q => h4.row.other h2 (by decide) q)
  have g3 := hkk.heap h3 (fun q => h4.row.other h3 (by decide) q)
  have ks := (Kept.refl (fun j => j = ob) W).setCell (p := ⟨ob, 0, none⟩) (fun _ => rfl) v'
  have n3 : ∀ j, v'.ownBlock = some j → j ≠ ob := fun j hj q => hE.row.other g3 (by decide) (by rw [hj, q])
  have n4 : ∀ q ∈ M ++ M2, ∀ j, (slE q).ownBlock = some j → j ≠ ob := fun q hq j hj e => (hE.rows q hq).1.other g3 (by decide) (by rw [hj, e])
  have hE2 : EdN w (W.setCell ⟨ob, 0, none⟩ v') v' (M ++ M2) := hE.keptX ks (fun j q => by omega) (fun j hj q => n3 j hj q) (fun q hq j hj e => n4 q hq j hj e)
  refine ⟨FilO w.heap.size ob v' (M ++ M2), ⟨v', M ++ M2, rfl, ks.heap g0 (by omega), ks.heap g1 (by omega), ks.heap g2 (by omega), blk_set g3 0 v', hE2, ?_, ?_⟩, ?_, ?_, ?_⟩
  · rw [List.map_append, h5, hm, filL_next hx, if_pos hb]
  · intro i q hi hq
    rcases Nat.lt_or_eq_of_le (Nat.le_of_lt_succ hi) with e | e
    · exact h6 i q e hq
    · subst e; rw [hx] at hq; injection hq with hq; subst hq; exact he
  · exact hkk.trans' ks (fun j _ q => .inr (.inr (.inr (.inl q)))) (fun j _ q => .inr (.inr (.inl q)))
  · rintro j (q | q | q | q | ⟨r, hr, q⟩)
    · exact .inl (.inl q)
    · exact .inl (.inr (.inl q))
    · exact .inl (.inr (.inr (.inl q)))
    · rcases hg1 j q with e | e
      · exact .inl (.inr (.inr (.inr (.inl e))))
      · exact .inr (.inl (Nat.le_trans kA.size e))
    · rcases List.mem_append.1 hr with hr | hr
      · exact .inl (.inr (.inr (.inr (.inr ⟨r, hr, q⟩))))
      · exact .inr (.inl (Nat.le_trans kA.size (hg2 r hr j q)))
  · have hs := ks.size
    have hs1 := hkk.size
    rintro j (q | q | q | q | ⟨r, hr, q⟩)
    · have := hlt j (.inl q); omega
    · have := hlt j (.inr (.inl q)); omega
    · have := hlt j (.inr (.inr (.inl q))); omega
    · exact hE2.row.lt j q
    · exact (hE2.rows r hr).1.lt j q
/-- A round that takes none. -/
theorem fil_skip {L : List Ed} {x : List Wd} {B : Option Addr} {d : Nat} {w A1 A2 : World} {ob k : Nat} {v0 : Value} {M : List PE} {p : List Wd × List Jp} {X : Nat → Prop}
    (h0 : A1.heap[w.heap.size]? = some (.cells #[.slice B x.length d] 26 (0, 0))) (h1 : A1.heap[w.heap.size + 1]? = some (.cells #[.slice none 0 0] 24 (0, 0))) (h2 : A1.heap[w.heap.size + 1 + 1]? = some (.cells #[.int .i64 0] 27 (0, 0)))
    (h3 : A1.heap[ob]? = some (.cells #[v0] 24 (0, 0))) (h4 : EdN w A1 v0 M) (h5 : M.map Prod.snd = filL x ((runsL L).take k)) (h6 : ∀ i p, i < k → (runsL L)[i]? = some p → (holdsS x p.1).2 = 0)
    (hx : (runsL L)[k]? = some p) (hb : (holdsS x p.1).1 = false) (he : (holdsS x p.1).2 = 0) (kA : Kept (fun _ => False) A1 A2) (hlt : ∀ j, FilO w.heap.size ob v0 M j → j < A1.heap.size) :
    Turn X (FilO w.heap.size ob v0 M) A1 (FilI L x B d w ob (k + 1)) A2 := by
  refine ⟨FilO w.heap.size ob v0 M, ⟨v0, M, rfl, kA.heap h0 (fun q => q), kA.heap h1 (fun q => q), kA.heap h2 (fun q => q), kA.heap h3 (fun q => q), h4.keptX kA (fun _ q => q.elim) (fun _ _ q => q) (fun _ _ _ _ q => q), ?_, ?_⟩, kA.mono (fun _ _ q => q.elim), fun j q => .inl q, fun j q => Nat.lt_of_lt_of_le (hlt j q) kA.size⟩
  · rw [h5, filL_next hx, if_neg (by rw [hb]; simp), List.append_nil]
  · intro i q hi hq
    rcases Nat.lt_or_eq_of_le (Nat.le_of_lt_succ hi) with e | e
    · exact h6 i q e hq
    · subst e; rw [hx] at hq; injection hq with hq; subst hq; exact he

set_option maxHeartbeats 2000000 in
set_option maxRecDepth 100000 in
theorem filter_any (L : List Ed) (x : List Wd) (A B : Option Addr) (c d : Nat) (w : World) (hl : L.length ≤ 1048576) (hs : EdS w (fun _ => False) A L) (hx : Src encW 3 w (fun _ => False) B x) (hxl : x.length ≤ 1048576) (hxn : ∀ o ∈ x, I64 o.n) (hLn : ∀ y ∈ L, ∀ v ∈ y.r, I64 v.n) :
    Calls Tryz.prog 11 #[.slice A L.length c, .slice B x.length d] w fun e w' => ∃ v M, e = .returned (.tuple #[v, .int .i64 (filS L x).2]) ∧ EdN w w' v M ∧ M.map Prod.snd = (filS L x).1 := by
  obtain ⟨R, hR⟩ : ∃ R, filS L x = R := ⟨_, rfl⟩
  have HR : Hid _ := Lib.hid hR
  rw [hR]
  clear hR
  have hem := fun wx hx => emay_any L A c wx hl hx
  have hfm := fun wx hy => form_any x B d wx hy (by unfold maxLen; omega)
  have hgr := fun wx => groups_fn A L.length c wx
  have k0 : Kept (fun _ => False) w (((w.alloc (.cells #[.slice B x.length d] 26)).alloc (.cells #[.slice none 0 0] 24)).alloc (.cells #[.int .i64 0] 27)) := (((Kept.refl _ w).alloc _).alloc _).alloc _
  have a0 := heap_alloc_new w (.cells #[.slice B x.length d] 26)
  have a1 := heap_alloc_new (w.alloc (.cells #[.slice B x.length d] 26)) (.cells #[.slice none 0 0] 24)
  have a2 := heap_alloc_new ((w.alloc (.cells #[.slice B x.length d] 26)).alloc (.cells #[.slice none 0 0] 24)) (.cells #[.int .i64 0] 27)
  simp only [World.size_alloc] at a1 a2
  have a0' := Kept.heap (((Kept.refl (fun _ => False) _).alloc (.cells #[.slice none 0 0] 24)).alloc (.cells #[.int .i64 0] 27)) a0 (fun q => q)
  have a1' := Kept.heap ((Kept.refl (fun _ => False) _).alloc (.cells #[.int .i64 0] 27)) a1 (fun q => q)
  clear a0 a1
  have hs0 := hs.same k0
  have hx0 := hx.same k0
  have H0 := Lib.hid a0'
  have H1 := Lib.hid a1'
  have H2 := Lib.hid a2
  have K0 := Lib.hid k0
  clear a0' a1' a2 k0
  cases hm : edMay L with
  | false =>
    rw [hm] at hem
    have HRR : Hid (R = ([], 2)) := by unfold Hid; rw [← HR.out]; unfold filS; rw [hm]; simp
    clear hm
    refine calls_marks Tryz.func11 rfl ?_
    simp only [Tryz.ntmps11, List.size_toArray, List.length_cons, List.length_nil, Nat.reduceAdd, Nat.reduceSub, Array.replicate_succ, Array.replicate_zero, List.push_toArray, List.append_toArray, List.nil_append, List.cons_append]
    gi_wp2_with fail
    refine ⟨trivial, rfl, callsIn_wide.2 ((hem _ hs0).mono ?_)⟩
    rintro e w1 ⟨rfl, k1⟩
    have g1 := k1.heap H1.out (fun q => q)
    have g2 := k1.heap H2.out (fun q => q)
    have c1 := cell_of_row _ _ 0 _ _ _ g1
    have c2 := cell_of_row _ _ 0 _ _ _ g2
    simp only [List.getElem?_toArray, List.getElem?_cons_zero] at c1 c2
    have f1 := frozen_of g1 0
    have f2 := frozen_of g2 0
    have HT := Lib.hid (two_res (by omega) g1 g2 (K0.out.trans k1) (.slice none 0 0) 2)
    clear g1 g2 k1
    gi_wp2_with fail
    obtain ⟨t1, t2, _, t3⟩ := HT.out
    have z1 := cell_of_row _ _ 0 _ _ _ t1
    have z2 := cell_of_row _ _ 0 _ _ _ t2
    simp only [List.getElem?_toArray, List.getElem?_cons_zero] at z1 z2
    have hRR := HRR.out
    subst hRR
    refine ⟨.tuple #[.slice none 0 0, .int .i64 2], ?_, .slice none 0 0, [], rfl, EdN.nil.from t3, rfl⟩
    simp [results, Tryz.results11, go_sem, z1, z2]
  | true =>
    rw [hm] at hem
    cases hf : decide (formI x = 0) with
    | false =>
      have hf1 : ¬ formI x = 0 := by simpa using hf
      have hf2 : (formI x != 0) = true := by simpa using hf1
      have HRR : Hid (R = ([], formI x)) := by unfold Hid; rw [← HR.out]; unfold filS; rw [hm, if_pos rfl, if_neg hf1]
      clear hm hf hf1
      generalize formI x = fx at *
      refine calls_marks Tryz.func11 rfl ?_
      simp only [Tryz.ntmps11, List.size_toArray, List.length_cons, List.length_nil, Nat.reduceAdd, Nat.reduceSub, Array.replicate_succ, Array.replicate_zero, List.push_toArray, List.append_toArray, List.nil_append, List.cons_append]
      gi_wp2_with fail
      refine ⟨trivial, rfl, callsIn_wide.2 ((hem _ hs0).mono ?_)⟩
      rintro e w1 ⟨rfl, k1⟩
      have b0 := cell_of_row _ _ 0 _ _ _ (k1.heap H0.out (fun q => q))
      simp only [List.getElem?_toArray, List.getElem?_cons_zero] at b0
      have hx1 := hx0.same k1
      have K1 := Lib.hid k1
      clear k1
      gi_wp2_with fail
      refine ⟨trivial, rfl, callsIn_wide.2 ((hfm _ hx1).mono ?_)⟩
      rintro e w2 ⟨rfl, k2⟩
      have k12 := K1.out.trans k2
      have g1 := k12.heap H1.out (fun q => q)
      have g2 := k12.heap H2.out (fun q => q)
      have c1 := cell_of_row _ _ 0 _ _ _ g1
      have c2 := cell_of_row _ _ 0 _ _ _ g2
      simp only [List.getElem?_toArray, List.getElem?_cons_zero] at c1 c2
      have f1 := frozen_of g1 0
      have f2 := frozen_of g2 0
      have HT := Lib.hid (two_res (by omega) g1 g2 (K0.out.trans k12) (.slice none 0 0) fx)
      clear g1 g2 k2 k12
      gi_wp2_with fail
      obtain ⟨t1, t2, _, t3⟩ := HT.out
      have z1 := cell_of_row _ _ 0 _ _ _ t1
      have z2 := cell_of_row _ _ 0 _ _ _ t2
      simp only [List.getElem?_toArray, List.getElem?_cons_zero] at z1 z2
      have hRR := HRR.out
      subst hRR
      refine ⟨.tuple #[.slice none 0 0, .int .i64 fx], ?_, .slice none 0 0, [], rfl, EdN.nil.from t3, rfl⟩
      simp [results, Tryz.results11, go_sem, z1, z2]
    | true =>
      simp only [decide_eq_true_eq] at hf
      have hea : eachB (runsL L) none = true := by unfold edMay at hm; rw [Bool.and_eq_true] at hm; exact hm.2
      have h40 := edMay_len hm
      have HRR : Hid (R = (match (runsL L).find? (fun p => (holdsS x p.1).2 != 0) with | some p => ([], (holdsS x p.1).2) | none => (filL x (runsL L), 0))) := by unfold Hid; rw [← HR.out]; unfold filS; rw [if_pos hm, if_pos hf]; rfl
      have hfll := fun k => runs_fil_len hm x k
      rw [hf] at hfm
      clear hf hm
      refine calls_marks Tryz.func11 rfl ?_
      simp only [Tryz.ntmps11, List.size_toArray, List.length_cons, List.length_nil, Nat.reduceAdd, Nat.reduceSub, Array.replicate_succ, Array.replicate_zero, List.push_toArray, List.append_toArray, List.nil_append, List.cons_append]
      gi_wp2_with fail
      refine ⟨trivial, rfl, callsIn_wide.2 ((hem _ hs0).mono ?_)⟩
      rintro e w1 ⟨rfl, k1⟩
      have b0 := cell_of_row _ _ 0 _ _ _ (k1.heap H0.out (fun q => q))
      simp only [List.getElem?_toArray, List.getElem?_cons_zero] at b0
      have hx1 := hx0.same k1
      have K1 := Lib.hid k1
      clear k1
      gi_wp2_with fail
      refine ⟨trivial, rfl, callsIn_wide.2 ((hfm _ hx1).mono ?_)⟩
      rintro e w2 ⟨rfl, k2⟩
      have K2 := Lib.hid k2
      clear k2
      gi_wp2_with fail
      refine ⟨trivial, rfl, callsIn_wide.2 ((hgr _).mono ?_)⟩
      rintro e w3 ⟨rfl, hbx, k3⟩
      simp only [World.size_alloc] at hbx
      have q1 := heap_alloc_new (w2.alloc (.cells #[] 84)) (.cells #[.slice (some ⟨w2.heap.size, 0, none⟩) 0 0] 24)
      simp only [World.size_alloc] at q1
      have k23 : Kept (fun _ => False) w2 w3 := (((Kept.refl _ w2).alloc _).alloc _).trans k3
      have k03 := (K1.out.trans K2.out).trans k23
      have g0 := k03.heap H0.out (fun q => q)
      have g1 := k03.heap H1.out (fun q => q)
      have g2 := k03.heap H2.out (fun q => q)
      have g3 := k3.heap q1 (fun q => q)
      have kw3 := K0.out.trans k03
      have hw2 : w.heap.size + 3 ≤ w2.heap.size := by
        have := (Array.getElem?_eq_some_iff.1 ((K1.out.trans K2.out).heap H2.out (fun q => q))).1; omega
      have hw3 : w2.heap.size + 3 ≤ w3.heap.size := (Array.getElem?_eq_some_iff.1 hbx).1
      have hE : EdN w w3 (.slice (some ⟨w2.heap.size, 0, none⟩) 0 0) [] :=
        ⟨(Row.new (enc := encE) (sz := 3) (T := 84) w2).same (((Kept.refl (fun _ => False) _).alloc _).trans k3), (fun j hj => (show w2.heap.size = j from by simpa [Value.ownBlock] using hj) ▸ (by omega)), (fun p hp => by cases hp), kw3⟩
      have hI0 : FilI L x B d w (w2.heap.size + 1) 0 (FilO w.heap.size (w2.heap.size + 1) (.slice (some ⟨w2.heap.size, 0, none⟩) 0 0) []) w3 := ⟨_, [], rfl, g0, g1, g2, g3, hE, by simp [filL], fun i p hi => by omega⟩
      have hsw : EdS w3 (FilO w.heap.size (w2.heap.size + 1) (.slice (some ⟨w2.heap.size, 0, none⟩) 0 0) []) A L := by
        refine (hs.old.kept kw3 (fun _ q => q.elim) (fun j q => .inr ?_) : EdS w3 _ A L)
        rcases q with q | q | q | q | ⟨r, hr, q⟩
        · omega
        · omega
        · omega
        · have e : w2.heap.size = j := by simpa [Value.ownBlock] using q
          omega
        · cases hr
      have hO : ∀ j, FilO w.heap.size (w2.heap.size + 1) (.slice (some ⟨w2.heap.size, 0, none⟩) 0 0) [] j → j < w2.heap.size + 2 := by
        rintro j (q | q | q | q | ⟨r, hr, q⟩)
        · omega
        · omega
        · omega
        · have e : w2.heap.size = j := by simpa [Value.ownBlock] using q
          omega
        · cases hr
      have hxw := hx
      have KW := Lib.hid kw3
      clear q1 k3 k23 k03 g0 g1 g2 g3 kw3 hE hx1 hx0 hs0 b0
      gi_wp2_with fail
      refine range_wp (gf := 65) (lb := #[.pointer (some ⟨w2.heap.size + 1 + 1, 0, none⟩)]) rfl (enters_of Tryz.func65 (by kernel_rfl) rfl)
        (groups1_iter (w2.heap.size + 1 + 1) L A c _ w3 hbx hl hsw (fun q => by have := hO _ q; omega) (by unfold edMay; rw [hea]; simp [h40])) (fun _ => rfl) tellG_kept handG_cells
        (FilI L x B d w (w2.heap.size + 1)) (FilX L x w) (filI_stable L x B d w _ (by omega)) (fun cd => filX_stable L x w cd (by omega)) hI0 (fun j q => by have := hO j q; omega)
        (fun v => { tmps := #[.slice A L.length c, .slice B x.length d, undef, .pointer (some ⟨w.heap.size, 0, none⟩), .pointer (some ⟨w.heap.size + 1, 0, none⟩), .pointer (some ⟨w.heap.size + 1 + 1, 0, none⟩), .int .i64 0, .pointer (some ⟨w2.heap.size + 1, 0, none⟩), v.1, v.2, undef, undef, .slice A L.length c, .bool true, .bool false, .slice B x.length d, .int .i64 0, .int .i64 0, .bool false, undef, .slice (some ⟨w2.heap.size, 0, none⟩) 0 0, .slice A L.length c, .func (.func 65) #[] #[.pointer (some ⟨w2.heap.size + 1 + 1, 0, none⟩)], v.1, v.2, undef, undef, undef, undef, undef, undef, undef, undef, undef, undef, undef, undef, undef, undef, undef, undef], defers := [] }) ?assign ?body ?done ?stop
      case assign =>
        intro l' v W' K hK
        unfold encG
        gi_wp2_with fail
        exact hK
      case body =>
        rintro l k p v O1 A1 ⟨v0, M, rfl, h0, h1, h2, h3, h4, h5, h6⟩ hxk ⟨ht1, ht2⟩ hlt hsA
        have hpm := List.mem_of_getElem? hxk
        obtain ⟨hrb, hsb⟩ := eachB_mem _ _ hea p hpm
        obtain ⟨⟨z, hz, hzr⟩, hpl⟩ := runs_mem hpm
        have hn1 : ∀ u ∈ p.1, I64 u.n := fun u hu => hLn z hz u (by rw [← hzr]; exact hu)
        have hp8 : p.1.length ≤ 1048576 := by have := (row_th hrb hn1).1; omega
        obtain ⟨v1, v2⟩ := v
        obtain ⟨Ar, cr, hv1, har, hsr⟩ := ht1.asSrc encW_len
        obtain ⟨Af, cf, hv2, haf, hsf⟩ := ht2.asSrc encJ_len
        simp only at hv1 hv2
        subst hv1 hv2
        have hho := fun wx hy hz => holds_any x p.1 B Ar d cr wx hy hz hxl hp8 hxn hn1
        have hbu := fun wx hy hz => build_any p.1 p.2 Ar Af cr cf wx har hy hz hp8 (by omega) hrb hsb
        have c0 := cell_of_row A1 _ 0 _ _ _ h0
        simp only [List.getElem?_toArray, List.getElem?_cons_zero] at c0
        have hxA := hx.same h4.kept
        have hMl : M.length ≤ 16777216 := by rw [← List.length_map (f := Prod.snd), h5]; exact hfll k
        have H0' := Lib.hid h0
        have H1' := Lib.hid h1
        have H2' := Lib.hid h2
        have H3' := Lib.hid h3
        have H5' := Lib.hid h5
        have H6' := Lib.hid h6
        have HXK := Lib.hid hxk
        cases hq : holdsS x p.1 with
        | mk hb he =>
        rw [hq] at hho
        simp only at hho
        have HQ := Lib.hid hq
        have kw := h4.kept
        clear h0 h1 h2 h3 h5 h6 hxk hq ht1 ht2 hI0 hsw hzr hz hpm
        by_cases g1 : he = 0
        · subst g1
          cases hb with
          | false =>
            gi_wp2_with fail
            refine ⟨trivial, rfl, CallsIn.inRound l (callsIn_wide.2 ((hho _ hxA hsr).mono ?_))⟩
            rintro e A2 ⟨rfl, kA⟩
            have HT : Turn (handG (.slice Ar p.1.length cr, .slice Af p.2.length cf)) (FilO w.heap.size (w2.heap.size + 1) v0 M) A1 (FilI L x B d w (w2.heap.size + 1) (k + 1)) A2 :=
              fil_skip H0'.out H1'.out H2'.out H3'.out h4 H5'.out H6'.out HXK.out (by rw [HQ.out]) (by rw [HQ.out]) kA hlt
            clear hlt kA h4
            gi_wp2_with fail
            exact HT
          | true =>
            gi_wp2_with fail
            refine ⟨trivial, rfl, CallsIn.inRound l (callsIn_wide.2 ((hho _ hxA hsr).mono ?_))⟩
            rintro e A2 ⟨rfl, kA⟩
            have c3 := cell_of_row _ _ 0 _ _ _ (kA.heap H3'.out (fun q => q))
            simp only [List.getElem?_toArray, List.getElem?_cons_zero] at c3
            have f3 := frozen_of (kA.heap H3'.out (fun q => q)) 0
            obtain ⟨A0, e0, rfl, _, _⟩ := h4.row.shape
            have fin : ∀ (W2 : World) (v' : Value) (M2 : List PE), EdN w W2 v' (M ++ M2) → Kept (fun j => (Value.slice A0 M.length e0).ownBlock = some j) A2.drew W2 → (∀ j, v'.ownBlock = some j → (Value.slice A0 M.length e0).ownBlock = some j ∨ A2.drew.heap.size ≤ j) → (∀ p ∈ M2, ∀ j, (slE p).ownBlock = some j → A2.drew.heap.size ≤ j) → M2.map Prod.snd = putL p.1 p.2 →
                Turn (handG (.slice Ar p.1.length cr, .slice Af p.2.length cf)) (FilO w.heap.size (w2.heap.size + 1) (.slice A0 M.length e0) M) A1 (FilI L x B d w (w2.heap.size + 1) (k + 1)) (W2.setCell ⟨w2.heap.size + 1, 0, none⟩ v') := fun _ _ _ h7 h8 h9 h10 h11 =>
              fil_turn (by omega) H0'.out H1'.out H2'.out H3'.out h4 H5'.out H6'.out HXK.out (by rw [HQ.out]) (by rw [HQ.out]) (kA.trans (drew_kept A2 1)) h7 h8 h9 h10 h11 hlt
            have FIN := Lib.hid fin
            have hsr2 := (hsr.same kA).same (drew_kept A2 1)
            have hsf2 := (hsf.same kA).same (drew_kept A2 1)
            have hE2 := Lib.hid ((h4.keptX kA (fun _ q => q.elim) (fun _ _ q => q) (fun _ _ _ _ q => q)).keptX (drew_kept A2 1) (fun _ q => q.elim) (fun _ _ q => q) (fun _ _ _ _ q => q))
            have hb2 := hbu _ hsr2 hsf2
            have H3d := Lib.hid ((kA.trans (drew_kept A2 1)).heap H3'.out (fun q => q))
            have hp4 : p.2.length ≤ 4096 := by omega
            have hno : ∀ (W2 : World), Kept (fun j => (Value.slice A0 M.length e0).ownBlock = some j) A2.drew W2 → W2.cell? ⟨w2.heap.size + 1, 0, none⟩ = some (.slice A0 M.length e0) ∧ W2.frozen? ⟨w2.heap.size + 1, 0, none⟩ = false := fun _ kk => by
              have q := kk.heap H3d.out (fun q => h4.row.other H3'.out (by decide) q)
              have c3 := cell_of_row _ _ 0 _ _ _ q
              simp only [List.getElem?_toArray, List.getElem?_cons_zero] at c3
              exact ⟨c3, frozen_of q 0⟩
            have NO := Lib.hid hno
            have c3d := (NO.out _ (Kept.refl _ _)).1
            clear hlt h4 kA fin hno
            gi_wp2_with fail
            refine region_inRound (by kernel_rfl) (by kernel_rfl) (by rintro ⟨_, _, h⟩; exact h) ?_
            refine wpAny_take (i := 1) (v := ?_) rfl (by kernel_rfl) (by kernel_rfl) (by kernel_rfl) (fun _ _ _ h => h) (Or.inl ⟨by rfl, ?_⟩) ?_
            rotate_left
            · (intro w; go_simp)
              try with_reducible rfl
            refine wpAny_take (i := 2) (v := ?_) rfl (by kernel_rfl) (by kernel_rfl) (by kernel_rfl) (fun _ _ _ h => h) (Or.inl ⟨by rfl, ?_⟩) ?_
            rotate_left
            · (intro w; go_simp)
              try with_reducible rfl
            refine wpAny_ready (rs := [0, 3]) (by kernel_rfl) (by simp) ?_
            refine AllReady.cons rfl (fun K hK => ?_) ?_
            · skip
              go_simp
              refine hK _ _ ?_
              clear hK K
              refine wpAny_ready (rs := [3]) (by kernel_rfl) (by simp) ?_
              refine AllReady.cons rfl (fun K hK => ?_) AllReady.nil
              go_simp
              refine hb2.mono ?_
              rintro e B1 ⟨u, M2, rfl, hE3, hm2⟩
              have HM2 := Lib.hid hm2
              have hM2l : M2.length ≤ 4096 := by rw [← List.length_map (f := Prod.snd), hm2]; unfold putL; rw [List.length_map]; exact hp4
              clear hm2
              refine hK _ _ ?_
              clear hK K
              refine wpAny_ready (rs := [4]) (by kernel_rfl) (by simp) ?_
              refine AllReady.cons rfl (fun K hK => ?_) AllReady.nil
              refine step_ex rfl _ _ _ _ rfl rfl rfl (EdN.cat _ _ (.agg #[.slice none 0 0, .int .i64 0, .int .i64 0]) 40 Tryz.underlying24 (by kernel_rfl) rfl hE2.out (Kept.refl _ _) hE3 (by unfold maxLen; omega) (by omega)) ?_
              rintro v' W2 ⟨A', c', rfl, hEn, hkn, ho1, ho2⟩
              refine hK _ _ ?_
              clear hK K
              obtain ⟨n3, n4⟩ := NO.out _ hkn
              have HT := Lib.hid (FIN.out _ _ _ hEn hkn ho1 ho2 HM2.out)
              clear hEn hkn ho1 ho2 hE3
              refine wpAny_ready (rs := [5]) (by kernel_rfl) (by simp) ?_
              refine AllReady.cons rfl (fun K hK => ?_) AllReady.nil
              go_simp
              refine hK _ _ ?_
              clear hK K
              refine wpAny_done (by kernel_rfl) ?_ _
              exact HT.out
            · refine AllReady.cons rfl (fun K hK => ?_) ?_
              · skip
                go_simp
                refine hb2.mono ?_
                rintro e B1 ⟨u, M2, rfl, hE3, hm2⟩
                have HM2 := Lib.hid hm2
                have hM2l : M2.length ≤ 4096 := by rw [← List.length_map (f := Prod.snd), hm2]; unfold putL; rw [List.length_map]; exact hp4
                clear hm2
                have c4 := hE3.kept.cell c3d (fun q => q)
                refine hK _ _ ?_
                clear hK K
                refine wpAny_ready (rs := [0]) (by kernel_rfl) (by simp) ?_
                refine AllReady.cons rfl (fun K hK => ?_) AllReady.nil
                go_simp
                refine hK _ _ ?_
                clear hK K
                refine wpAny_ready (rs := [4]) (by kernel_rfl) (by simp) ?_
                refine AllReady.cons rfl (fun K hK => ?_) AllReady.nil
                refine step_ex rfl _ _ _ _ rfl rfl rfl (EdN.cat _ _ (.agg #[.slice none 0 0, .int .i64 0, .int .i64 0]) 40 Tryz.underlying24 (by kernel_rfl) rfl hE2.out (Kept.refl _ _) hE3 (by unfold maxLen; omega) (by omega)) ?_
                rintro v' W2 ⟨A', c', rfl, hEn, hkn, ho1, ho2⟩
                refine hK _ _ ?_
                clear hK K
                obtain ⟨n3, n4⟩ := NO.out _ hkn
                have HT := Lib.hid (FIN.out _ _ _ hEn hkn ho1 ho2 HM2.out)
                clear hEn hkn ho1 ho2 hE3
                refine wpAny_ready (rs := [5]) (by kernel_rfl) (by simp) ?_
                refine AllReady.cons rfl (fun K hK => ?_) AllReady.nil
                go_simp
                refine hK _ _ ?_
                clear hK K
                refine wpAny_done (by kernel_rfl) ?_ _
                exact HT.out
              · exact AllReady.nil
        · have g1' : (he != 0) = true := by simpa using g1
          have HG := Lib.hid g1
          clear g1
          gi_wp2_with fail
          refine ⟨trivial, rfl, CallsIn.inRound l (callsIn_wide.2 ((hho _ hxA hsr).mono ?_))⟩
          rintro e A2 ⟨rfl, kA⟩
          have q1 := kA.heap H1'.out (fun q => q)
          have q2 := kA.heap H2'.out (fun q => q)
          have c1 := cell_of_row _ _ 0 _ _ _ q1
          have c2 := cell_of_row _ _ 0 _ _ _ q2
          simp only [List.getElem?_toArray, List.getElem?_cons_zero] at c1 c2
          have f1 := frozen_of q1 0
          have f2 := frozen_of q2 0
          obtain ⟨t1, t2, t3, t4⟩ := two_res (by omega) q1 q2 (kw.trans kA) (.slice none 0 0) he
          have HT : Turn (handG (.slice Ar p.1.length cr, .slice Af p.2.length cf)) (FilO w.heap.size (w2.heap.size + 1) v0 M) A1 (FilX L x w .ret k) ((A2.setCell ⟨w.heap.size + 1, 0, none⟩ (.slice none 0 0)).setCell ⟨w.heap.size + 1 + 1, 0, none⟩ (.int .i64 he)) :=
            ⟨FilO w.heap.size (w2.heap.size + 1) v0 M, ⟨p, HXK.out, by rw [HQ.out]; exact HG.out, H6'.out, rfl, t1, by rw [HQ.out]; exact t2, t4⟩, kA.trans' t3 (fun _ _ q => q.elim) (fun j _ q => by rcases q with q | q; exact .inl q; exact .inr (.inl q)), fun j q => .inl q, fun j q => by have := t3.size; have := kA.size; have := hlt j q; omega⟩
          clear hlt q1 q2 t1 t2 t3 t4 kA h4
          gi_wp2_with fail
          exact HT
      case done =>
        rintro D O1 W1 ⟨v0, M, rfl, h0, h1, h2, h3, h4, h5, h6⟩ hK hDw hDO
        obtain ⟨A0, e0, rfl, _, _⟩ := h4.row.shape
        have c1 := cell_of_row _ _ 0 _ _ _ h1
        have c2 := cell_of_row _ _ 0 _ _ _ h2
        have c3 := cell_of_row _ _ 0 _ _ _ h3
        simp only [List.getElem?_toArray, List.getElem?_cons_zero] at c1 c2 c3
        have f1 := frozen_of h1 0
        have f2 := frozen_of h2 0
        rw [List.take_length] at h5
        have hR1 : R = (filL x (runsL L), 0) := by
          rw [HRR.out, find_none (q := fun p : List Wd × List Jp => (holdsS x p.1).2 != 0) (fun i p hi hp => by have := h6 i p hi hp; simp [this])]
        have HR1 := Lib.hid hR1
        obtain ⟨t1, t2, t3, t4⟩ := two_res (by omega) h1 h2 h4.kept (.slice A0 M.length e0) 0
        have hnv : ∀ j, (Value.slice A0 M.length e0).ownBlock = some j → ¬ (j = w.heap.size + 1 ∨ j = w.heap.size + 1 + 1) := fun j hj q => by
          rcases q with q | q
          · exact h4.row.other h1 (by decide) (by rw [hj, q])
          · exact h4.row.other h2 (by decide) (by rw [hj, q])
        have hnm : ∀ p ∈ M, ∀ j, (slE p).ownBlock = some j → ¬ (j = w.heap.size + 1 ∨ j = w.heap.size + 1 + 1) := fun p hp j hj q => by
          rcases q with q | q
          · exact (h4.rows p hp).1.other h1 (by decide) (by rw [hj, q])
          · exact (h4.rows p hp).1.other h2 (by decide) (by rw [hj, q])
        have hE2 := h4.keptX t3 (fun j q => by omega) hnv hnm
        have kp := (Kept.refl (fun j => j = D) ((W1.setCell ⟨w.heap.size + 1, 0, none⟩ (.slice A0 M.length e0)).setCell ⟨w.heap.size + 1 + 1, 0, none⟩ (.int .i64 0))).putObj D (.deferred none) (fun _ => rfl)
        have hE3 := hE2.keptX kp (fun j q => by omega) (fun j hj q => hDO (.inr (.inr (.inr (.inl (by rw [hj, q]))))) ) (fun p hp j hj q => hDO (.inr (.inr (.inr (.inr ⟨p, hp, by rw [hj, q]⟩)))))
        have y1 := cell_of_row _ _ 0 _ _ _ (kp.heap t1 (fun q => hDO (.inl q.symm)))
        have y2 := cell_of_row _ _ 0 _ _ _ (kp.heap t2 (fun q => hDO (.inr (.inl q.symm))))
        simp only [List.getElem?_toArray, List.getElem?_cons_zero] at y1 y2
        have HK := Lib.hid (t3.heap hK (fun q => by rcases q with q | q; exact hDO (.inl q); exact hDO (.inr (.inl q))))
        have HY1 := Lib.hid y1
        have HY2 := Lib.hid y2
        have HE := Lib.hid hE3
        have H5 := Lib.hid h5
        clear h0 h1 h2 h3 h4 h5 h6 t1 t2 t3 t4 hE2 hE3 kp y1 y2 hK hR1 hDO hI0 hsw hnv hnm
        gi_wp2_with fail
        refine ⟨by simp, .inl ⟨_, _, rfl, run_takeDeferred HK.out, .tuple #[.slice A0 M.length e0, .int .i64 0], ?_, .slice A0 M.length e0, M, ?_, HE.out, ?_⟩⟩
        · have hy1 := HY1.out
          have hy2 := HY2.out
          simp [results, Tryz.results11, go_sem, hy1, hy2]
        · rw [HR1.out]
        · rw [HR1.out]; exact H5.out
      case stop =>
        rintro D cd k O1 W1 hkl ⟨p, h0, h1, h2, rfl, h3, h4, h5⟩ hK hDw hDO
        have hR1 : R = ([], (holdsS x p.1).2) := by
          rw [HRR.out, find_at (q := fun p : List Wd × List Jp => (holdsS x p.1).2 != 0) h0 (by simpa using h1) (fun i q hi hq => by have := h2 i q hi hq; simp [this])]
        have HR1 := Lib.hid hR1
        have kp := (Kept.refl (fun j => j = D) W1).putObj D (.deferred none) (fun _ => rfl)
        have hk5 := h5.trans' kp (fun _ _ q => q) (fun j hj q => by omega)
        have y1 := cell_of_row _ _ 0 _ _ _ (kp.heap h3 (fun q => by omega))
        have y2 := cell_of_row _ _ 0 _ _ _ (kp.heap h4 (fun q => by omega))
        simp only [List.getElem?_toArray, List.getElem?_cons_zero] at y1 y2
        have HK := Lib.hid hK
        have HY1 := Lib.hid y1
        have HY2 := Lib.hid y2
        have HE := Lib.hid (EdN.nil.from hk5)
        generalize (holdsS x p.1).2 = he at *
        clear h0 h1 h2 h3 h4 h5 kp y1 y2 hK hR1 hDO hI0 hsw hk5
        gi_wp2_with fail
        refine ⟨by simp, .inl ⟨_, _, rfl, run_takeDeferred HK.out, .tuple #[.slice none 0 0, .int .i64 he], ?_, .slice none 0 0, [], ?_, HE.out, ?_⟩⟩
        · have hy1 := HY1.out
          have hy2 := HY2.out
          simp [results, Tryz.results11, go_sem, hy1, hy2]
        · rw [HR1.out]
        · rw [HR1.out]; rfl
end Go.Proofs.YtballmombklalaaGreat
