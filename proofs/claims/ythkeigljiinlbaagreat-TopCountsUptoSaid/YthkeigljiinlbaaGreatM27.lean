/- edge.put behind other edges. -/
import Derived.Test.YthkeigljiinlbaaGreatM13
import Derived.Test.YthkeigljiinlbaaGreatM26
import Derived.Test.YthkeigljiinlbaaGreatM14
namespace Go.Proofs.YthkeigljiinlbaaGreat
open Go.RowKit

/-- v is v0's row of edges with M behind it: what was written since wr. -/
structure EdP (w0 wr : World) (v0 : Value) (M0 : List PE) (w : World) (v : Value) (M : List PE) : Prop where
  le : w0.heap.size ≤ wr.heap.size
  ed : EdN w0 w v (M0 ++ M)
  kept : Kept (fun j => v0.ownBlock = some j) wr w
  own : ∀ j, v.ownBlock = some j → v0.ownBlock = some j ∨ wr.heap.size ≤ j
  rows : ∀ p ∈ M, ∀ j, (slE p).ownBlock = some j → wr.heap.size ≤ j
theorem EdP.nil {w0 wr : World} {v0 : Value} {M0 : List PE} (h : EdN w0 wr v0 M0) : EdP w0 wr v0 M0 wr v0 [] :=
  ⟨h.kept.size, by rw [List.append_nil]; exact h, Kept.refl _ wr, (fun _ q => .inl q), (fun p hp => by cases hp)⟩
theorem EdP.lit {P : Program} {w0 w1 wr W : World} {v0 v : Value} {M0 M : List PE} (t ty : TypeId) (z : Value) (bytes : Nat) (ht : P.underlying t = some (.slice 50)) (hi : (P.info? 50).map (fun i => (i.zero, i.size, i.bytes)) = some (some z, 3, bytes)) (hzs : z.cells.size = 3)
    (h : EdP w0 w1 v0 M0 wr v M) (k : Kept (fun _ => False) wr W) (p : PE) (hp : Row encW 3 48 W (slE p) p.2.r) (hpo : ∀ j, (slE p).ownBlock = some j → w1.heap.size ≤ j) (B c : Nat) {T' : TypeId} {f : Nat × Nat} (hB : W.heap[B]? = some (.cells (cellsOf encE [p]).toArray T' f))
    (h63 : (M0 ++ M).length + 1 ≤ maxLen) (hb : ((M0 ++ M).length + 1) * bytes ≤ 140737488355328) :
    ∃ v' w', Hid ((Builtin.append_ #[t, t] ty #[v, .slice (some ⟨B, 0, none⟩) 1 c]).run P W = .ok v' w') ∧ EdP w0 w1 v0 M0 w' v' (M ++ [p]) := by
  obtain ⟨A', c', w', h1, h2, h3, h4⟩ := app_src (P := P) (M := [p]) (N := fun _ => False) t ty z bytes ht hi hzs (by decide) encE_len encE_one (h.ed.row.same k) (some ⟨B, 0, none⟩) c (by simp) (Src.many encE_len hB (fun q => q)) h63 hb
  rw [List.length_append] at h2
  have kk := h.ed.kept.trans k
  have k1 := h.kept.trans' k (U := fun j => v0.ownBlock = some j) (fun _ _ q => q) (fun _ _ q => q.elim)
  have hr : ∀ q ∈ M0 ++ M ++ [p], Row encW 3 48 W (slE q) q.2.r ∧ (∀ j, (slE q).ownBlock = some j → w0.heap.size ≤ j) := by
    intro q hq
    rw [List.mem_append, List.mem_singleton] at hq
    rcases hq with hq | rfl
    · exact ⟨(h.ed.rows q hq).1.same k, (h.ed.rows q hq).2⟩
    · exact ⟨hp, fun j hj => Nat.le_trans h.le (hpo j hj)⟩
  refine ⟨_, w', h1, h.le, ?_, k1.trans' h3 (fun _ _ q => q) (fun j hj q => by rcases h.own j q with e | e; exact e; omega), fun j hj => ?_, fun q hq j hj => ?_⟩
  · rw [← List.append_assoc]
    refine ⟨h2, fun j hj => ?_, fun q hq => ⟨(hr q hq).1.kept h3 (fun g hg e => ?_), (hr q hq).2⟩, kk.trans' h3 (fun _ _ q => q) (fun i hi q => absurd (h.ed.own i q) (by omega))⟩
    · rcases h4 j hj with q | q
      · exact h.ed.own j q
      · exact Nat.le_trans kk.size q
    · obtain ⟨cs, e1⟩ := row_cells (hr q hq).1 hg
      obtain ⟨cs2, e2⟩ := row_cells (h.ed.row.same k) e
      rw [e1] at e2
      injection e2 with e2
      injection e2 with _ e2 _
      exact absurd e2 (by decide)
  · rcases h4 j hj with q | q
    · exact h.own j q
    · exact .inr (Nat.le_trans k1.size q)
  · rcases List.mem_append.1 hq with hq | hq
    · exact h.rows q hq j hj
    · rw [List.mem_singleton] at hq
      subst hq
      exact hpo j hj

set_option maxHeartbeats 2000000 in
set_option maxRecDepth 100000 in
theorem putN_any (r : List Wd) (f : List Jp) (A B : Option Addr) (c d : Nat) (v0 : Value) (M0 : List PE) (w0 w : World) (h0 : EdN w0 w v0 M0) (hM0 : M0.length ≤ 1048576) (hA : A = none → r = [] ∧ c = 0) (h : Src encW 3 w (fun j => v0.ownBlock = some j) A r) (hf : Src encJ 2 w (fun j => v0.ownBlock = some j) B f) (hrl : r.length ≤ 1048576) (hfl : f.length ≤ 1048576) :
    Calls Tryz.prog 92 #[v0, .slice A r.length c, .slice B f.length d] w fun e w' => ∃ v M, e = .returned v ∧ EdP w0 w v0 M0 w' v M ∧ M.map Prod.snd = putL r f := by
  have hcp := fun wx hx => rcopy_any r A c wx hA hx hrl
  have H0 := Lib.hid h0
  obtain ⟨A0, e0, rfl, _, _⟩ := h0.row.shape
  obtain ⟨V0, hV0⟩ : ∃ V0, Value.slice A0 M0.length e0 = V0 := ⟨_, rfl⟩
  have HV0 := Lib.hid hV0
  rw [hV0] at h hf H0
  rw [hV0]
  clear h0 hV0
  go_enter Tryz.func92, Tryz.ntmps92
  go_wp2_with fail
  go_loopg [0, 11] f.length (fun k ov iv wr => ∃ (n : Nat) (M : List PE), n + k = f.length ∧ iv = .int .i64 n ∧ EdP w0 w V0 M0 wr ov M ∧ Hid (M.map Prod.snd = putL r (f.take n)) ∧ M.length = n)
  case atStart => exact ⟨0, [], by omega, rfl, EdP.nil H0.out, by unfold Hid; simp [putL], rfl⟩
  case round =>
    obtain ⟨n, M, hk, rfl, hed, HM, hml⟩ := hrel
    have HML := Lib.hid hml
    have hmb : (M0 ++ M).length ≤ 2097152 := by rw [List.length_append]; omega
    clear hml
    by_cases hlt : n < f.length
    · obtain ⟨x, hx⟩ : ∃ x, f[n]? = some x := ⟨_, List.getElem?_eq_getElem hlt⟩
      have hfw : Src encJ 2 wr (fun _ => False) B f := hf.kept hed.kept (fun _ q => q) (fun _ q => q.elim)
      have hrw : Src encW 3 wr (fun _ => False) A r := h.kept hed.kept (fun _ q => q) (fun _ q => q.elim)
      obtain ⟨b, off, rfl, _, x0, x1⟩ := hfw.cells2 hx
      obtain ⟨xa, xn⟩ := x
      simp only at x0 x1
      have HX := Lib.hid hx
      clear hx
      have kb1 := (Kept.refl (fun _ => False) wr).alloc (.cells #[.int .i64 xa, .int .i64 xn] 80)
      have hal := heap_alloc_new wr (.cells #[.int .i64 xa, .int .i64 xn] 80)
      have hszW : w.heap.size ≤ (wr.alloc (.cells #[.int .i64 xa, .int .i64 xn] 80)).drew.heap.size := Nat.le_trans hed.kept.size ((kb1.trans (drew_kept _ 1)).size)
      obtain ⟨NN, hNN⟩ : ∃ NN, (M0 ++ M).length = NN := ⟨_, rfl⟩
      obtain ⟨Ao, co, hov, _, _⟩ := hed.ed.row.shape
      rw [hNN] at hov
      have HNN := Lib.hid hNN
      rw [hNN] at hmb
      subst hov
      clear hNN
      go_wp2_with fail
      generalize hWW : wr.alloc (.cells #[.int .i64 xa, .int .i64 xn] 80) = W at *
      generalize hbx : wr.heap.size = bx at *
      have q0 := cell_of_row W bx 0 _ _ _ hal
      have q1 := cell_of_row W bx 1 _ _ _ hal
      simp only [List.getElem?_toArray, List.getElem?_cons_zero, List.getElem?_cons_succ] at q0 q1
      have hcp2 := hcp W.drew (hrw.same (kb1.trans (drew_kept W 1)))
      clear hWW hbx hfw hrw
      go_region_law (first
        | (refine step_ex rfl _ _ _ _ rfl rfl rfl (EdP.lit _ _ (.agg #[.slice none 0 0, .int .i64 0, .int .i64 0]) 40 Tryz.underlying22 (by kernel_rfl) rfl hed (((kb1.trans (drew_kept W 1)).trans hnc.kept).alloc _) ((Ac, cc), ⟨r, xa, xn⟩) (hnc.row.same ((Kept.refl _ _).alloc _)) (fun j hj => Nat.le_trans hszW (hnc.own j hj)) _ _ (heap_alloc_new _ _) (by rw [HNN.out]; unfold maxLen; omega) (by rw [HNN.out]; omega)) ?_; rintro v' w4 hn4)
        | (go_simp; go_at_call 22; refine hcp2.mono ?_; rintro e w3 ⟨vr, rfl, hnc⟩; have q0' := hnc.kept.cell (w := W.drew) q0 (fun q => q); have q1' := hnc.kept.cell (w := W.drew) q1 (fun q => q); obtain ⟨Ac, cc, rfl, _, _⟩ := hnc.shape))
      all_goals
        go_wp2_with fail
        go_roundg (gk - 1)
        case measure => omega
        case rel => exact ⟨n + 1, M ++ [((Ac, cc), ⟨r, xa, xn⟩)], by omega, int_eq (by omega), hn4, by unfold Hid; rw [List.map_append, HM.out, List.take_add_one, HX.out]; simp [putL], by rw [List.length_append, HML.out]; rfl⟩
    · have e : n = f.length := by omega
      have hm := HM.out
      rw [e, List.take_length] at hm
      have HMM := Lib.hid hm
      clear hm e
      go_wp2_with fail
      go_ret
      exact ⟨_, M, rfl, hed, HMM.out⟩
end Go.Proofs.YthkeigljiinlbaaGreat

/- edge.mapped with step.Norm. -/
namespace Go.Proofs.YthkeigljiinlbaaGreat
open Go.RowKit
attribute [local go_sem] Oper.semAt_some

theorem putL_tw (r : List Wd) : ∀ (l : List Ed), (∀ y ∈ l, y.r = r) → putL r (l.map Ed.j) = l
  | [], _ => rfl
  | y :: l, h => by
    have h1 := h y (List.mem_cons_self ..)
    have h2 := putL_tw r l (fun z hz => h z (List.mem_cons_of_mem _ hz))
    unfold putL at h2 ⊢
    rw [List.map_cons, List.map_cons, h2]
    subst h1
    rfl
theorem tw_all {α : Type} (p : α → Bool) : ∀ (l : List α), ∀ y ∈ l.takeWhile p, p y = true
  | [], y, h => by cases h
  | x :: l, y, h => by
    by_cases hp : p x = true
    · rw [List.takeWhile_cons_of_pos hp] at h
      rcases List.mem_cons.1 h with rfl | h
      · exact hp
      · exact tw_all p l y h
    · rw [List.takeWhile_cons_of_neg hp] at h
      cases h
theorem runsF_flat : ∀ (n : Nat) (L : List Ed), L.length ≤ n → (runsF n L).flatMap (fun p => putL p.1 p.2) = L
  | 0, L, h => by
    have : L = [] := List.eq_nil_of_length_eq_zero (by omega)
    subst this
    rfl
  | n + 1, [], _ => rfl
  | n + 1, x :: L, h => by
    have hd := dw_len (fun y : Ed => y.r == x.r) x L (by simp)
    simp only [List.length_cons] at h
    rw [runsF, List.flatMap_cons, runsF_flat n _ (by omega), putL_tw x.r _ (fun y hy => by simpa using tw_all _ _ y hy), List.takeWhile_append_dropWhile]
/-- The runs say all. -/
theorem runs_flat (L : List Ed) : (runsL L).flatMap (fun p => putL p.1 p.2) = L := runsF_flat _ L (Nat.le_refl _)
theorem runs_edge {L : List Ed} {p : List Wd × List Jp} (h : p ∈ runsL L) {j : Jp} (hj : j ∈ p.2) : (⟨p.1, j.a, j.n⟩ : Ed) ∈ L := by
  rw [← runs_flat L, List.mem_flatMap]
  exact ⟨p, h, by unfold putL; exact List.mem_map.2 ⟨j, hj, rfl⟩⟩

/-- What is made of each run. -/
inductive MapR : List (List Wd × List Jp) → List (List Wd × List Jp) → Prop
  | nil : MapR [] []
  | snoc {gs Rs : List (List Wd × List Jp)} {p q : List Wd × List Jp} : MapR gs Rs → q.1 = p.1 → NormI p.2 q.2 → MapR (gs ++ [p]) (Rs ++ [q])
def flatR (Rs : List (List Wd × List Jp)) : List Ed := Rs.flatMap (fun p => putL p.1 p.2)
theorem flatR_snoc (Rs : List (List Wd × List Jp)) (q : List Wd × List Jp) : flatR (Rs ++ [q]) = flatR Rs ++ putL q.1 q.2 := by
  unfold flatR; rw [List.flatMap_append, List.flatMap_singleton]
theorem MapR.len {gs Rs : List (List Wd × List Jp)} (h : MapR gs Rs) : (flatR Rs).length ≤ (flatR gs).length := by
  induction h with
  | nil => exact Nat.le_refl _
  | snoc _ e hn ih =>
    rw [flatR_snoc, flatR_snoc, List.length_append, List.length_append]
    have := hn.len
    unfold putL
    rw [List.length_map, List.length_map]
    omega
theorem flat_take (L : List Ed) (k : Nat) : (flatR ((runsL L).take k)).length ≤ L.length := by
  have h := runs_flat L
  have h2 : flatR ((runsL L).take k) ++ flatR ((runsL L).drop k) = L := by
    unfold flatR
    rw [← List.flatMap_append, List.take_append_drop, h]
  have h3 := congrArg List.length h2
  rw [List.length_append] at h3
  omega

def MapO (n ob : Nat) (v : Value) (M : List PE) : Nat → Prop := fun j => j = n + 1 ∨ j = n + 1 + 1 ∨ j = ob ∨ v.ownBlock = some j ∨ ∃ p ∈ M, (slE p).ownBlock = some j
/-- Between the rounds. -/
def MapI (L : List Ed) (w : World) (ob : Nat) (k : Nat) (O : Nat → Prop) (W : World) : Prop :=
  ∃ (v : Value) (M : List PE) (Rs : List (List Wd × List Jp)), O = MapO w.heap.size ob v M ∧ W.heap[w.heap.size]? = some (.cells #[.func (.func 51) #[] #[]] 119 (0, 0)) ∧ W.heap[w.heap.size + 1]? = some (.cells #[.slice none 0 0] 22 (0, 0)) ∧
    W.heap[w.heap.size + 1 + 1]? = some (.cells #[.int .i64 0] 24 (0, 0)) ∧ W.heap[ob]? = some (.cells #[v] 22 (0, 0)) ∧ EdN w W v M ∧ M.map Prod.snd = flatR Rs ∧ MapR ((runsL L).take k) Rs
theorem mapI_stable (L : List Ed) (w : World) (ob : Nat) {s : Nat} (hs : w.heap.size + 3 ≤ s) : Stable s (MapI L w ob) := by
  rintro k O A C X ⟨v, M, Rs, rfl, h0, h1, h2, h3, h4, h5, h6⟩ hX hXX
  refine ⟨v, M, Rs, rfl, hX.heap h0 (fun q => by have := (hXX _ q).1; omega), hX.heap h1 (fun q => by have := (hXX _ q).1; omega), hX.heap h2 (fun q => by have := (hXX _ q).1; omega), hX.heap h3 (fun q => (hXX _ q).2 (.inr (.inr (.inl rfl)))), ?_, h5, h6⟩
  exact h4.keptX hX (fun j q => by have := (hXX _ q).1; omega) (fun j hj q => (hXX _ q).2 (.inr (.inr (.inr (.inl hj))))) (fun p hp j hj q => (hXX _ q).2 (.inr (.inr (.inr (.inr ⟨p, hp, hj⟩)))))

/-- Both results are stored. -/
theorem two_res {w W : World} {n : Nat} (hn : w.heap.size ≤ n) (h1 : W.heap[n]? = some (.cells #[.slice none 0 0] 22 (0, 0))) (h2 : W.heap[n + 1]? = some (.cells #[.int .i64 0] 24 (0, 0))) (k : Kept (fun _ => False) w W) (v : Value) (e : Int) :
    ((W.setCell ⟨n, 0, none⟩ v).setCell ⟨n + 1, 0, none⟩ (.int .i64 e)).heap[n]? = some (.cells #[v] 22 (0, 0)) ∧ ((W.setCell ⟨n, 0, none⟩ v).setCell ⟨n + 1, 0, none⟩ (.int .i64 e)).heap[n + 1]? = some (.cells #[.int .i64 e] 24 (0, 0)) ∧
    Kept (fun j => j = n ∨ j = n + 1) W ((W.setCell ⟨n, 0, none⟩ v).setCell ⟨n + 1, 0, none⟩ (.int .i64 e)) ∧ Kept (fun _ => False) w ((W.setCell ⟨n, 0, none⟩ v).setCell ⟨n + 1, 0, none⟩ (.int .i64 e)) := by
  have kb := ((Kept.refl (fun j => j = n ∨ j = n + 1) W).setCell (p := ⟨n, 0, none⟩) (fun _ => .inl rfl) v).setCell (p := ⟨n + 1, 0, none⟩) (fun _ => .inr rfl) (.int .i64 e)
  refine ⟨?_, ?_, kb, k.trans' kb (fun _ _ q => q) (fun j hj q => by omega)⟩
  · exact blk_set_other (blk_set h1 0 v) (p := ⟨n + 1, 0, none⟩) (by simp) _
  · exact blk_set (blk_set_other h2 (p := ⟨n, 0, none⟩) (by simp) v) 0 (.int .i64 e)

theorem map_turn {L : List Ed} {w A1 A2 W : World} {ob k : Nat} {v0 v' : Value} {M M2 : List PE} {Rs : List (List Wd × List Jp)} {p q : List Wd × List Jp} {X : Nat → Prop} (hob : w.heap.size + 2 < ob)
    (h0 : A1.heap[w.heap.size]? = some (.cells #[.func (.func 51) #[] #[]] 119 (0, 0))) (h1 : A1.heap[w.heap.size + 1]? = some (.cells #[.slice none 0 0] 22 (0, 0))) (h2 : A1.heap[w.heap.size + 1 + 1]? = some (.cells #[.int .i64 0] 24 (0, 0)))
    (h3 : A1.heap[ob]? = some (.cells #[v0] 22 (0, 0))) (h4 : EdN w A1 v0 M) (h5 : M.map Prod.snd = flatR Rs) (h6 : MapR ((runsL L).take k) Rs)
    (hx : (runsL L)[k]? = some p) (hq1 : q.1 = p.1) (hq : NormI p.2 q.2) (kA : Kept (fun _ => False) A1 A2) (hP : EdP w A2 v0 M W v' M2)
    (hm : M2.map Prod.snd = putL q.1 q.2) (hlt : ∀ j, MapO w.heap.size ob v0 M j → j < A1.heap.size) :
    Turn X (MapO w.heap.size ob v0 M) A1 (MapI L w ob (k + 1)) (W.setCell ⟨ob, 0, none⟩ v') := by
  have hE := hP.ed
  have hkk : Kept (fun j => v0.ownBlock = some j) A1 W := kA.trans' hP.kept (fun _ _ q => q.elim) (fun _ _ q => q)
  have g0 := hkk.heap h0 (fun q => h4.row.other h0 (by decide) q)
  have g1 := hkk.heap h1 (fun q => h4.row.other h1 (by decide) q)
  have g2 := hkk.heap h2 (fun q => h4.row.other h2 (by decide) q)
  have g3 := hkk.heap h3 (fun q => h4.row.other h3 (by decide) q)
  have ks := (Kept.refl (fun j => j = ob) W).setCell (p := ⟨ob, 0, none⟩) (fun _ => rfl) v'
  have n3 : ∀ j, v'.ownBlock = some j → j ≠ ob := fun j hj q => hE.row.other g3 (by decide) (by rw [hj, q])
  have n4 : ∀ q ∈ M ++ M2, ∀ j, (slE q).ownBlock = some j → j ≠ ob := fun q hq j hj e => (hE.rows q hq).1.other g3 (by decide) (by rw [hj, e])
  have hE2 : EdN w (W.setCell ⟨ob, 0, none⟩ v') v' (M ++ M2) := hE.keptX ks (fun j q => by omega) (fun j hj q => n3 j hj q) (fun q hq j hj e => n4 q hq j hj e)
  refine ⟨MapO w.heap.size ob v' (M ++ M2), ⟨v', M ++ M2, Rs ++ [q], rfl, ks.heap g0 (by omega), ks.heap g1 (by omega), ks.heap g2 (by omega), blk_set g3 0 v', hE2, ?_, ?_⟩, ?_, ?_, ?_⟩
  · rw [List.map_append, h5, hm, flatR_snoc]
  · have ht : (runsL L).take (k + 1) = (runsL L).take k ++ [p] := by rw [List.take_add_one, hx]; rfl
    rw [ht]
    exact h6.snoc hq1 hq
  · exact hkk.trans' ks (fun j _ q => .inr (.inr (.inr (.inl q)))) (fun j _ q => .inr (.inr (.inl q)))
  · rintro j (q | q | q | q | ⟨r, hr, q⟩)
    · exact .inl (.inl q)
    · exact .inl (.inr (.inl q))
    · exact .inl (.inr (.inr (.inl q)))
    · rcases hP.own j q with e | e
      · exact .inl (.inr (.inr (.inr (.inl e))))
      · exact .inr (.inl (Nat.le_trans kA.size e))
    · rcases List.mem_append.1 hr with hr | hr
      · exact .inl (.inr (.inr (.inr (.inr ⟨r, hr, q⟩))))
      · exact .inr (.inl (Nat.le_trans kA.size (hP.rows r hr j q)))
  · have hs := ks.size
    have hs1 := hkk.size
    rintro j (q | q | q | q | ⟨r, hr, q⟩)
    · have := hlt j (.inl q); omega
    · have := hlt j (.inr (.inl q)); omega
    · have := hlt j (.inr (.inr (.inl q))); omega
    · exact hE2.row.lt j q
    · exact (hE2.rows r hr).1.lt j q

set_option maxHeartbeats 2000000 in
set_option maxRecDepth 100000 in
theorem mapped_any (L : List Ed) (A : Option Addr) (c : Nat) (w : World) (hl : L.length ≤ 1000) (hs : EdS w (fun _ => False) A L) (hok : ∀ x ∈ L, OkN x) :
    Calls Tryz.prog 50 #[.slice A L.length c, .func (.func 51) #[] #[]] w fun e w' => ∃ v M Rs, e = .returned (.tuple #[v, .int .i64 0]) ∧ EdN w w' v M ∧ M.map Prod.snd = flatR Rs ∧ MapR (runsL L) Rs := by
  have hrn := fun wx => runs_any A L.length c wx
  have k0 : Kept (fun _ => False) w (((((w.alloc (.cells #[.func (.func 51) #[] #[]] 119)).alloc (.cells #[.slice none 0 0] 22)).alloc (.cells #[.int .i64 0] 24)).alloc (.cells #[] 50)).alloc (.cells #[.slice (some ⟨w.heap.size + 1 + 1 + 1, 0, none⟩) 0 0] 22)) := (((((Kept.refl _ w).alloc _).alloc _).alloc _).alloc _).alloc _
  have a0 := heap_alloc_new w (.cells #[.func (.func 51) #[] #[]] 119)
  have a1 := heap_alloc_new (w.alloc (.cells #[.func (.func 51) #[] #[]] 119)) (.cells #[.slice none 0 0] 22)
  have a2 := heap_alloc_new ((w.alloc (.cells #[.func (.func 51) #[] #[]] 119)).alloc (.cells #[.slice none 0 0] 22)) (.cells #[.int .i64 0] 24)
  have a4 := heap_alloc_new ((((w.alloc (.cells #[.func (.func 51) #[] #[]] 119)).alloc (.cells #[.slice none 0 0] 22)).alloc (.cells #[.int .i64 0] 24)).alloc (.cells #[] 50)) (.cells #[.slice (some ⟨w.heap.size + 1 + 1 + 1, 0, none⟩) 0 0] 22)
  have hrow := (Row.new (enc := encE) (sz := 3) (T := 50) (((w.alloc (.cells #[.func (.func 51) #[] #[]] 119)).alloc (.cells #[.slice none 0 0] 22)).alloc (.cells #[.int .i64 0] 24)))
  simp only [World.size_alloc] at a1 a2 a4 hrow
  have b0 := Kept.heap (((((Kept.refl (fun _ => False) _).alloc (.cells #[.slice none 0 0] 22)).alloc (.cells #[.int .i64 0] 24)).alloc (.cells #[] 50)).alloc (.cells #[.slice (some ⟨w.heap.size + 1 + 1 + 1, 0, none⟩) 0 0] 22)) a0 (fun q => q)
  have b1 := Kept.heap ((((Kept.refl (fun _ => False) _).alloc (.cells #[.int .i64 0] 24)).alloc (.cells #[] 50)).alloc (.cells #[.slice (some ⟨w.heap.size + 1 + 1 + 1, 0, none⟩) 0 0] 22)) a1 (fun q => q)
  have b2 := Kept.heap (((Kept.refl (fun _ => False) _).alloc (.cells #[] 50)).alloc (.cells #[.slice (some ⟨w.heap.size + 1 + 1 + 1, 0, none⟩) 0 0] 22)) a2 (fun q => q)
  have hrow2 := hrow.same ((Kept.refl (fun _ => False) _).alloc (.cells #[.slice (some ⟨w.heap.size + 1 + 1 + 1, 0, none⟩) 0 0] 22))
  have H0 := Lib.hid b0
  have H1 := Lib.hid b1
  have H2 := Lib.hid b2
  have H4 := Lib.hid a4
  have HR := Lib.hid hrow2
  have K0 := Lib.hid k0
  clear a0 a1 a2 a4 b0 b1 b2 k0 hrow hrow2
  refine calls_marks Tryz.func50 rfl ?_
  simp only [Tryz.ntmps50, List.size_toArray, List.length_cons, List.length_nil, Nat.reduceAdd, Nat.reduceSub, Array.replicate_succ, Array.replicate_zero, List.push_toArray, List.append_toArray, List.nil_append, List.cons_append]
  gi_wp2_with fail
  refine ⟨trivial, rfl, callsIn_wide.2 ((hrn _).mono ?_)⟩
  rintro e w3 ⟨rfl, hbx, k3⟩
  simp only [World.size_alloc] at hbx
  have g0 := k3.heap H0.out (fun q => q)
  have g1 := k3.heap H1.out (fun q => q)
  have g2 := k3.heap H2.out (fun q => q)
  have g4 := k3.heap H4.out (fun q => q)
  have kw3 := K0.out.trans k3
  have hw3 : w.heap.size + 6 ≤ w3.heap.size := (Array.getElem?_eq_some_iff.1 hbx).1
  have hE : EdN w w3 (.slice (some ⟨w.heap.size + 1 + 1 + 1, 0, none⟩) 0 0) [] :=
    ⟨HR.out.same k3, (fun j hj => (show w.heap.size + 1 + 1 + 1 = j from by simpa [Value.ownBlock] using hj) ▸ (by omega)), (fun p hp => by cases hp), kw3⟩
  have hI0 : MapI L w (w.heap.size + 1 + 1 + 1 + 1) 0 (MapO w.heap.size (w.heap.size + 1 + 1 + 1 + 1) (.slice (some ⟨w.heap.size + 1 + 1 + 1, 0, none⟩) 0 0) []) w3 := ⟨_, [], [], rfl, g0, g1, g2, g4, hE, rfl, MapR.nil⟩
  have hO : ∀ j, MapO w.heap.size (w.heap.size + 1 + 1 + 1 + 1) (.slice (some ⟨w.heap.size + 1 + 1 + 1, 0, none⟩) 0 0) [] j → w.heap.size < j ∧ j < w.heap.size + 5 := by
    rintro j (q | q | q | q | ⟨r, hr, q⟩)
    · omega
    · omega
    · omega
    · have e : w.heap.size + 1 + 1 + 1 = j := by simpa [Value.ownBlock] using q
      omega
    · cases hr
  have hsw : EdS w3 (MapO w.heap.size (w.heap.size + 1 + 1 + 1 + 1) (.slice (some ⟨w.heap.size + 1 + 1 + 1, 0, none⟩) 0 0) []) A L :=
    hs.old.kept kw3 (fun _ q => q.elim) (fun j q => .inr (by have := hO j q; omega))
  clear k3 g0 g1 g2 g4 kw3 hE
  gi_wp2_with fail
  refine range_wp (gf := 100) (lb := #[.pointer (some ⟨w.heap.size + 1 + 1 + 1 + 1 + 1, 0, none⟩)]) rfl (enters_of Tryz.func100 (by kernel_rfl) rfl)
    (runs1_iter (w.heap.size + 1 + 1 + 1 + 1 + 1) L A c _ w3 hbx (by omega) hsw (fun q => by have := hO _ q; omega)) (fun _ => rfl) tellG_kept handG_cells
    (MapI L w (w.heap.size + 1 + 1 + 1 + 1)) (fun _ _ _ _ => False) (mapI_stable L w _ (by omega)) (fun cd _ _ _ _ _ h _ _ => h) hI0 (fun j q => by have := hO j q; omega)
    (fun v => { tmps := #[.slice A L.length c, .func (.func 51) #[] #[], undef, .pointer (some ⟨w.heap.size, 0, none⟩), .pointer (some ⟨w.heap.size + 1, 0, none⟩), .pointer (some ⟨w.heap.size + 1 + 1, 0, none⟩), .pointer (some ⟨w.heap.size + 1 + 1 + 1 + 1, 0, none⟩), v.1, v.2, undef, undef, .slice (some ⟨w.heap.size + 1 + 1 + 1, 0, none⟩) 0 0, .slice A L.length c, .func (.func 100) #[] #[.pointer (some ⟨w.heap.size + 1 + 1 + 1 + 1 + 1, 0, none⟩)], v.1, v.2, undef, undef, undef, undef, undef, undef, undef, undef, undef, undef, undef, undef, undef, undef, undef, undef, undef], defers := [] }) ?assign ?body ?done ?stop
  case assign =>
    intro l' v W' K hK
    unfold encG
    gi_wp2_with fail
    exact hK
  case body =>
    rintro l k p v O1 A1 ⟨v0, M, Rs, rfl, h0, h1, h2, h3, h4, h5, h6⟩ hxk ⟨ht1, ht2⟩ hlt hsA
    have hpm := List.mem_of_getElem? hxk
    obtain ⟨⟨z, hz, hzr⟩, hpl⟩ := runs_mem hpm
    have h1r : One p.1 := by rw [hzr]; exact (hok z hz).1
    have hp8 : p.1.length = 1 := h1r.len
    have hpb : ∀ j ∈ p.2, (-1 ≤ j.a ∧ j.a ≤ 1125899906842624) ∧ -1 ≤ j.n ∧ j.n ≤ 1 := fun j hj => (hok _ (runs_edge hpm hj)).2
    obtain ⟨v1, v2⟩ := v
    obtain ⟨Af, cf, hv2, haf, hsf⟩ := ht2.asSrc encJ_len
    obtain ⟨Ar, cr, hv1, har, _⟩ := ht1.asSrc encW_len
    simp only at hv1 hv2
    subst hv1 hv2
    have HP8 := Lib.hid hp8
    clear hp8
    have hn4 := norm4_any p.2 Af cf A1 haf hsf (by omega) hpb
    have c0 := cell_of_row A1 _ 0 _ _ _ h0
    simp only [List.getElem?_toArray, List.getElem?_cons_zero] at c0
    have hMl : M.length ≤ 1000 := by
      rw [← List.length_map (f := Prod.snd), h5]
      have := h6.len
      have := flat_take L k
      omega
    have H0' := Lib.hid h0
    have H1' := Lib.hid h1
    have H2' := Lib.hid h2
    have H3' := Lib.hid h3
    have H4' := Lib.hid h4
    have H5' := Lib.hid h5
    have H6' := Lib.hid h6
    have HXK := Lib.hid hxk
    have HT1 := Lib.hid ht1
    clear h0 h1 h2 h3 h4 h5 h6 hxk ht1 ht2 hI0 hsw hzr hz hpm hsf hpb
    gi_wp2_with fail
    refine ⟨trivial, rfl, CallsIn.inRound l (callsIn_wide.2 (hn4.mono ?_))⟩
    rintro e A2 ⟨vR, R, rfl, hnR, hNI⟩
    have kA := hnR.kept
    have c3 := cell_of_row _ _ 0 _ _ _ (kA.heap H3'.out (fun q => q))
    simp only [List.getElem?_toArray, List.getElem?_cons_zero] at c3
    have hE2 : EdN w A2 v0 M := H4'.out.keptX kA (fun _ q => q.elim) (fun _ _ q => q) (fun _ _ _ _ q => q)
    have hr1 : Src encW 3 A2 (fun j => v0.ownBlock = some j) Ar p.1 := by
      obtain ⟨A', c', e', _, _, h⟩ := (HT1.out.same kA).src encW_len (fun j => v0.ownBlock = some j) (fun j hj q => by
        obtain ⟨cs, hc⟩ := row_cells hE2.row q
        exact (HT1.out.same kA).other hc (by decide) hj)
      (try simp only at e')
      injection e' with e1
      rw [e1]; exact h
    obtain ⟨AR, cR, hvR, hcR, hmR, hsR⟩ := hnR.row.src encJ_len (fun j => v0.ownBlock = some j) (fun j hj q => by
        obtain ⟨cs, hc⟩ := row_cells hE2.row q
        exact hnR.row.other hc (by decide) hj)
    subst hvR
    have hpu := putN_any p.1 R Ar AR cr cR v0 M w A2 hE2 (by omega) har hr1 hsR (by have := HP8.out; omega) (by have := hNI.len; omega)
    have HNI := Lib.hid hNI
    have KA := Lib.hid kA
    clear hE2 hr1 hsR hnR kA hNI
    gi_wp2_with fail
    refine ⟨trivial, rfl, CallsIn.inRound l (callsIn_wide.2 (hpu.mono ?_))⟩
    rintro e B ⟨v', M2, rfl, hP, hm2⟩
    have hb3 := hP.kept.heap (KA.out.heap H3'.out (fun q => q)) (fun q => H4'.out.row.other H3'.out (by decide) q)
    have f3 := frozen_of hb3 0
    have c3B := cell_of_row _ _ 0 _ _ _ hb3
    simp only [List.getElem?_toArray, List.getElem?_cons_zero] at c3B
    have hl2 : (M ++ M2).length ≤ 1000 := by
      rw [← List.length_map (f := Prod.snd), List.map_append, H5'.out, hm2, ← flatR_snoc Rs (p.1, R)]
      have h7 := (H6'.out.snoc (p := p) (q := (p.1, R)) rfl HNI.out).len
      have h8 := flat_take L (k + 1)
      rw [List.take_add_one, HXK.out] at h8
      simp only [Option.toList_some] at h8
      omega
    have HT : Turn (handG (.slice Ar p.1.length cr, .slice Af p.2.length cf)) (MapO w.heap.size (w.heap.size + 1 + 1 + 1 + 1) v0 M) A1 (MapI L w (w.heap.size + 1 + 1 + 1 + 1) (k + 1)) (B.setCell ⟨w.heap.size + 1 + 1 + 1 + 1, 0, none⟩ v') :=
      map_turn (by omega) H0'.out H1'.out H2'.out H3'.out H4'.out H5'.out H6'.out HXK.out (q := (p.1, R)) rfl HNI.out KA.out hP hm2 hlt
    have hset := blk_set hb3 0 v'
    have cs := cell_of_row _ _ 0 _ _ _ hset
    (try simp at cs)
    obtain ⟨NN, hNN⟩ : ∃ NN, (M ++ M2).length = NN := ⟨_, rfl⟩
    obtain ⟨A5, e5, hv', _, _⟩ := hP.ed.row.shape
    rw [hNN] at hv' hl2
    subst hv'
    have hb1 : decide ((4096 : Int) < (NN : Int)) = false := by simp; omega
    have hb2 : ¬ ((4096 : Int) < (NN : Int)) := by omega
    have HTT := Lib.hid HT
    clear hP hm2 hb3 hset HT hNN hlt
    gi_wp2_with fail
    exact HTT.out
  case done =>
    rintro D O1 W1 ⟨v0, M, Rs, rfl, h0, h1, h2, h3, h4, h5, h6⟩ hK hDw hDO
    rw [List.take_length] at h6
    obtain ⟨A0, e0, rfl, _, _⟩ := h4.row.shape
    have c1 := cell_of_row _ _ 0 _ _ _ h1
    have c2 := cell_of_row _ _ 0 _ _ _ h2
    have c3 := cell_of_row _ _ 0 _ _ _ h3
    simp only [List.getElem?_toArray, List.getElem?_cons_zero] at c1 c2 c3
    have f1 := frozen_of h1 0
    have f2 := frozen_of h2 0
    obtain ⟨t1, t2, t3, t4⟩ := two_res (by omega) h1 h2 h4.kept (.slice A0 M.length e0) 0
    have hnv : ∀ j, (Value.slice A0 M.length e0).ownBlock = some j → ¬ (j = w.heap.size + 1 ∨ j = w.heap.size + 1 + 1) := fun j hj q => by
      rcases q with q | q
      · exact h4.row.other h1 (by decide) (by rw [hj, q])
      · exact h4.row.other h2 (by decide) (by rw [hj, q])
    have hnm : ∀ p ∈ M, ∀ j, (slE p).ownBlock = some j → ¬ (j = w.heap.size + 1 ∨ j = w.heap.size + 1 + 1) := fun p hp j hj q => by
      rcases q with q | q
      · exact (h4.rows p hp).1.other h1 (by decide) (by rw [hj, q])
      · exact (h4.rows p hp).1.other h2 (by decide) (by rw [hj, q])
    have hE2 := h4.keptX t3 (fun j q => by omega) hnv hnm
    have kp := (Kept.refl (fun j => j = D) ((W1.setCell ⟨w.heap.size + 1, 0, none⟩ (.slice A0 M.length e0)).setCell ⟨w.heap.size + 1 + 1, 0, none⟩ (.int .i64 0))).putObj D (.deferred none) (fun _ => rfl)
    have hE3 := hE2.keptX kp (fun j q => by omega) (fun j hj q => hDO (.inr (.inr (.inr (.inl (by rw [hj, q]))))) ) (fun p hp j hj q => hDO (.inr (.inr (.inr (.inr ⟨p, hp, by rw [hj, q]⟩)))))
    have y1 := cell_of_row _ _ 0 _ _ _ (kp.heap t1 (fun q => hDO (.inl q.symm)))
    have y2 := cell_of_row _ _ 0 _ _ _ (kp.heap t2 (fun q => hDO (.inr (.inl q.symm))))
    simp only [List.getElem?_toArray, List.getElem?_cons_zero] at y1 y2
    have HK := Lib.hid (t3.heap hK (fun q => by rcases q with q | q; exact hDO (.inl q); exact hDO (.inr (.inl q))))
    have HY1 := Lib.hid y1
    have HY2 := Lib.hid y2
    have HE := Lib.hid hE3
    have H5 := Lib.hid h5
    clear h0 h1 h2 h3 h4 h5 t1 t2 t3 t4 hE2 hE3 kp y1 y2 hK hDO hI0 hsw hnv hnm
    gi_wp2_with fail
    refine ⟨by simp, .inl ⟨_, _, rfl, run_takeDeferred HK.out, .tuple #[.slice A0 M.length e0, .int .i64 0], ?_, .slice A0 M.length e0, M, Rs, rfl, HE.out, H5.out, h6⟩⟩
    have hy1 := HY1.out
    have hy2 := HY2.out
    simp [results, Tryz.results50, go_sem, hy1, hy2]
  case stop =>
    intro D cd k O1 W1 hkl h
    exact h.elim
end Go.Proofs.YthkeigljiinlbaaGreat
