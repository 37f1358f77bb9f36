/- Picked out of the text Z of TopExprs. -/
import Derived.Test.YthkeigljiinlbaaGreatM6
import Derived.Deep.RegionLaw
import Derived.Laws.BitsLemmas
namespace Go.Proofs.YthkeigljiinlbaaGreat
open Go.RowKit

theorem rmay1_any (v : Wd) (w : World) : Calls Tryz.prog 61 #[aggW v] w fun e w' => e = .returned (.bool (!valB v)) ∧ Kept (fun _ => False) w w' := by
  have ho := fun wx => vmay_any v wx
  obtain ⟨c, n, t⟩ := v
  unfold aggW at *
  generalize valB ⟨c, n, t⟩ = vb at *
  go_enter Tryz.func61, Tryz.ntmps61
  go_wp2_with fail
  refine (ho _).mono ?_
  rintro e w' ⟨rfl, k⟩
  go_wp2_with fail
  go_ret
  exact ⟨rfl, ((Kept.refl _ w).alloc _).trans k⟩

/-- Is it a row? -/
def rowB (L : List Wd) : Bool := decide (L.length ≤ 8) && L.all valB
theorem rowB_len {L : List Wd} (h : rowB L = true) : L.length ≤ 8 := by unfold rowB at h; simp at h; exact h.1
theorem any_not (L : List Wd) : (!(L.any fun v => !valB v)) = L.all valB := by
  induction L with
  | nil => rfl
  | cons x r ih => rw [List.any_cons, List.all_cons, ← ih]; cases valB x <;> simp

theorem rowMay_any (L : List Wd) (A : Option Addr) (c : Nat) (w : World) (h : Src encW 3 w (fun _ => False) A L) (hl : L.length ≤ maxLen) :
    Calls Tryz.prog 24 #[.slice A L.length c] w fun e w' => e = .returned (.bool (rowB L)) ∧ Kept (fun _ => False) w w' := by
  have hl' := hl
  unfold maxLen at hl'
  unfold rowB
  by_cases h8 : L.length ≤ 8
  · have b1 : decide ((8 : Int) < (L.length : Int)) = false := by simp; omega
    have b2 : decide (L.length ≤ 8) = true := by simpa using h8
    rw [b2, Bool.true_and, ← any_not, ← findI_any (fun v => !valB v) L 0]
    have hc := contV_any L A c w 61 #[] (fun _ v => !valB v) (fun _ W => Kept (fun _ => False) w W) hl (enters_of Tryz.func61 (by kernel_rfl) rfl) (fun _ W k => h.same k)
      (fun n x W k _ => (rmay1_any x W).mono (by rintro e W' ⟨rfl, k1⟩; exact ⟨rfl, Kept.trans k k1⟩)) (Kept.refl _ w)
    generalize findI (fun _ v => !valB v) L 0 = R at *
    go_enter Tryz.func24, Tryz.ntmps24
    go_wp2_with fail
    refine hc.mono ?_
    rintro e w' ⟨n, rfl, k⟩
    go_wp2_with fail
    go_ret
    exact ⟨rfl, k⟩
  · have b1 : decide ((8 : Int) < (L.length : Int)) = true := by simp; omega
    have b2 : decide (L.length ≤ 8) = false := by simpa using h8
    rw [b2, Bool.false_and]
    go_enter Tryz.func24, Tryz.ntmps24
    go_wp2_with fail
    go_ret
    exact ⟨rfl, Kept.refl _ w⟩

/-- How a row stands to another, if both are rows. -/
def cmpL : List Wd → List Wd → Int
  | [], [] => 0
  | [], _ :: _ => -1
  | _ :: _, [] => 1
  | x :: r, y :: q => if x = y then cmpL r q else cmpV x y
def cmpR (a b : List Wd) : Int := if rowB a = true ∧ rowB b = true then cmpL a b else 0
/-- Does the thing at a place differ from the one there? -/
def pdB (M : List Wd) (n : Nat) (x : Wd) : Bool := !decide (M[n]? = some x)

theorem find_cmp (M : List Wd) : ∀ (a b : List Wd) (k m : Nat), M.drop k = b → m = min a.length b.length →
    (findI (pdB M) (a.take m) k = -1 → cmpL a b = Lib.compareInt a.length b.length) ∧
    (∀ i : Nat, findI (pdB M) (a.take m) k = i → ∃ x y, k ≤ i ∧ i < k + m ∧ a[i - k]? = some x ∧ M[i]? = some y ∧ cmpL a b = cmpV x y)
  | [], [], k, m, hb, hm => by
    refine ⟨fun _ => rfl, fun i hi => ?_⟩
    simp [findI] at hi
  | [], y :: q, k, m, hb, hm => by
    refine ⟨fun _ => by simp [cmpL, Lib.compareInt], fun i hi => ?_⟩
    simp [findI] at hi
  | x :: r, [], k, m, hb, hm => by
    simp at hm
    subst hm
    refine ⟨fun _ => by simp [cmpL, Lib.compareInt]; omega, fun i hi => ?_⟩
    simp [findI] at hi
  | x :: r, y :: q, k, m, hb, hm => by
    have hk : M[k]? = some y := by
      have := congrArg (fun l => l[0]?) hb
      simpa using this
    have hq : M.drop (k + 1) = q := by
      rw [← List.drop_drop, hb]; rfl
    obtain ⟨m', rfl, hm'⟩ : ∃ m', m = m' + 1 ∧ m' = min r.length q.length := ⟨min r.length q.length, by rw [hm]; simp, rfl⟩
    rw [List.take_succ_cons, findI]
    by_cases hxy : x = y
    · subst hxy
      have hp : pdB M k x = false := by unfold pdB; rw [hk]; simp
      rw [if_neg (by rw [hp]; simp)]
      obtain ⟨i1, i2⟩ := find_cmp M r q (k + 1) m' hq hm'
      refine ⟨fun h => ?_, fun i hi => ?_⟩
      · rw [cmpL, if_pos rfl, i1 h]
        simp only [Lib.compareInt, List.length_cons]
        (repeat' split) <;> first | rfl | (exfalso; omega) | skip
      · obtain ⟨x', y', h1, h2, h3, h4, h5⟩ := i2 i hi
        refine ⟨x', y', by omega, by omega, ?_, h4, by rw [cmpL, if_pos rfl, h5]⟩
        rw [show i - k = (i - (k + 1)) + 1 by omega, List.getElem?_cons_succ]
        exact h3
    · have hp : pdB M k x = true := by unfold pdB; rw [hk]; simp; exact fun e => hxy e.symm
      rw [if_pos hp]
      refine ⟨fun h => by omega, fun i hi => ?_⟩
      obtain rfl : k = i := by omega
      refine ⟨x, y, Nat.le_refl _, by omega, by simp, hk, by rw [cmpL, if_neg hxy]⟩

section
variable {α : Type} {enc : α → List Value} {sz : Nat} {w w' : World} {L : List α} {A : Option Addr} {N : Nat → Prop}
theorem Src.take (h : Src enc sz w N A L) (m : Nat) : Src enc sz w N A (L.take m) := by
  intro i x hi
  refine h i x ?_
  rw [List.getElem?_take] at hi
  split at hi
  · exact hi
  · cases hi
theorem Src.fresh (hlen : ∀ x, (enc x).length = sz) (h0 : 0 < sz) (h : Src enc sz w (fun _ => False) A L) (k : Kept (fun _ => False) w w') (hN : ∀ j, N j → w.heap.size ≤ j) : Src enc sz w' N A L := by
  intro i x hi
  obtain ⟨b, off, e, _, hc⟩ := h i x hi
  have hx0 : 0 < (enc x).length := by rw [hlen]; exact h0
  have hb := World.block_lt_of_cell? (w := w) _ (hc 0 _ (List.getElem?_eq_getElem hx0))
  exact ⟨b, off, e, fun q => by have := hN b q; simp only at hb; omega, fun j u hu => k.cell (hc j u hu) (fun q => q)⟩
end

theorem rc1_any (w : World) (bb : Nat) : Calls Tryz.prog 79 #[.pointer (some ⟨bb, 0, none⟩)] w fun e w' =>
    e = .returned (.func (.func 80) #[] #[.pointer (some ⟨w.heap.size, 0, none⟩), .pointer (some ⟨bb, 0, none⟩)]) ∧ w'.heap[w.heap.size]? = some (.cells #[.int .i64 (-1)] 3 (0, 0)) ∧ Kept (fun _ => False) w w' := by
  have hmf : ∀ (fn : Fn) (first cap : Array Value) (w : World), (Instr.makeFunc fn first cap).run Tryz.prog w = .ok (.func fn first cap) w := fun _ _ _ _ => rfl
  go_enter Tryz.func79, Tryz.ntmps79
  go_wp2_with fail
  go_ret
  exact ⟨rfl, heap_alloc_new w _, (Kept.refl _ w).alloc _⟩

set_option maxHeartbeats 1000000 in
set_option maxRecDepth 100000 in
theorem rc11_any (x : Wd) (n : Nat) (M : List Wd) (B : Option Addr) (d bi bb : Nat) (w : World) (hi : w.heap[bi]? = some (.cells #[.int .i64 ((n : Int) - 1)] 3 (0, 0)))
    (hb : w.heap[bb]? = some (.cells #[.slice B M.length d] 43 (0, 0))) (hne : bi ≠ bb) (hs : Src encW 3 w (fun j => j = bi) B M) (hn : n < M.length) (hl : M.length ≤ 8) :
    Calls Tryz.prog 80 #[aggW x, .pointer (some ⟨bi, 0, none⟩), .pointer (some ⟨bb, 0, none⟩)] w fun e w' =>
      e = .returned (.bool (pdB M n x)) ∧ w'.heap[bi]? = some (.cells #[.int .i64 n] 3 (0, 0)) ∧ Kept (fun j => j = bi) w w' := by
  obtain ⟨y, hy⟩ : ∃ y, M[n]? = some y := ⟨M[n], List.getElem?_eq_getElem hn⟩
  obtain ⟨b, off, rfl, hbi, y0, y1, y2⟩ := hs.cells3 hy
  have hp : pdB M n x = !decide (x = y) := by
    unfold pdB; rw [hy]
    by_cases e : x = y
    · subst e; simp
    · simp [e]; exact fun q => e q.symm
  rw [hp]
  have hbil := (Array.getElem?_eq_some_iff.1 hi).1
  have c1 := cell_of_row w bi 0 _ _ _ hi
  have c2 := cell_of_row w bb 0 _ _ _ hb
  have f1 := frozen_of hi 0
  simp only [List.getElem?_toArray, List.getElem?_cons_zero] at c1 c2
  obtain ⟨W, hW0⟩ : ∃ W, (w.setCell ⟨bi, 0, none⟩ (.int .i64 n)).alloc (.cells #[.int .i64 x.c, .int .i64 x.n, .string ⟨⟨x.t⟩⟩] 48) = W := ⟨_, rfl⟩
  have hW : Hid ((w.setCell ⟨bi, 0, none⟩ (.int .i64 n)).alloc (.cells #[.int .i64 x.c, .int .i64 x.n, .string ⟨⟨x.t⟩⟩] 48) = W) := hW0
  have kS : Kept (fun j => j = bi) w (w.setCell ⟨bi, 0, none⟩ (.int .i64 n)) := (Kept.refl (fun j => j = bi) w).setCell (p := ⟨bi, 0, none⟩) (fun _ => rfl) _
  have hsz : (w.setCell ⟨bi, 0, none⟩ (.int .i64 n)).heap.size = w.heap.size := by simp [World.setCell]
  have kW : Kept (fun j => j = bi) w W := by rw [← hW0]; exact kS.alloc _
  have hW1 : W.heap[bi]? = some (.cells #[.int .i64 n] 3 (0, 0)) := by
    rw [← hW0]
    exact Kept.heap ((Kept.refl (fun _ => False) _).alloc _) (blk_set hi 0 _) (fun q => q)
  have z3 := cell_of_row W bi 0 _ _ _ hW1
  have z4 : W.cell? ⟨bb, 0, none⟩ = _ := kW.cell c2 (fun q => hne q.symm)
  have z0 : W.cell? ⟨b, off + n * 3, none⟩ = _ := kW.cell y0 hbi
  have z1 : W.cell? ⟨b, off + n * 3 + 1, none⟩ = _ := kW.cell y1 hbi
  have z2 : W.cell? ⟨b, off + n * 3 + 2, none⟩ = _ := kW.cell y2 hbi
  have hb3 : W.heap[w.heap.size]? = some (.cells #[.int .i64 x.c, .int .i64 x.n, .string ⟨⟨x.t⟩⟩] 48 (0, 0)) := by
    rw [← hW0, ← hsz]; exact heap_alloc_new _ _
  have v0 := cell_of_row W w.heap.size 0 _ _ _ hb3
  have v1 := cell_of_row W w.heap.size 1 _ _ _ hb3
  have v2 := cell_of_row W w.heap.size 2 _ _ _ hb3
  simp only [List.getElem?_toArray, List.getElem?_cons_zero, List.getElem?_cons_succ] at v0 v1 v2 z3
  have hfin : Hid (W.heap[bi]? = some (.cells #[.int .i64 n] 3 (0, 0)) ∧ Kept (fun j => j = bi) w W) := ⟨hW1, kW⟩
  have e1 : wrap64 ((n : Int) - 1 + 1) = n := by simp only [wrap64]; omega
  have hn' : (n : Int) < (M.length : Int) := by omega
  clear hs hi hb hp hb3 hW1 kW kS hsz hW0 y0 y1 y2 
  obtain ⟨xc, xn, xt⟩ := x
  obtain ⟨yc, yn, yt⟩ := y
  simp only at z0 z1 z2 v0 v1 v2
  unfold aggW
  by_cases hxy : (⟨xc, xn, xt⟩ : Wd) = ⟨yc, yn, yt⟩
  · injection hxy with h1 h2 h3
    subst h1 h2 h3
    clear hy
    go_enter Tryz.func80, Tryz.ntmps80
    go_wp2_with fail
    rw [hW.out]
    go_quiet (fail)
    go_wp2_with fail
    go_ret
    exact ⟨ret_bool (by simp), hfin.1, Kept.drewN hfin.2 _⟩
  · have hxy' : Hid (decide ((⟨xc, xn, xt⟩ : Wd) = ⟨yc, yn, yt⟩) = false) := by unfold Hid; simpa using hxy
    by_cases g1 : xc = yc
    · subst g1
      by_cases g2 : xn = yn
      · subst g2
        have g3 : (xt == yt) = false := by
          rw [beq_eq_false_iff_ne]; rintro rfl; exact hxy rfl
        clear hxy hy
        go_enter Tryz.func80, Tryz.ntmps80
        go_wp2_with fail
        rw [hW.out]
        go_quiet (fail)
        go_wp2_with fail
        go_ret
        exact ⟨ret_bool (by rw [hxy'.out]; rfl), hfin.1, Kept.drewN hfin.2 _⟩
      · have g3 : (xn == yn) = false := by simpa using g2
        clear hxy g2 hy
        go_enter Tryz.func80, Tryz.ntmps80
        go_wp2_with fail
        rw [hW.out]
        go_quiet (fail)
        go_wp2_with fail
        go_ret
        exact ⟨ret_bool (by rw [hxy'.out]; rfl), hfin.1, Kept.drewN hfin.2 _⟩
    · have g3 : (xc == yc) = false := by simpa using g1
      clear hxy g1 hy
      go_enter Tryz.func80, Tryz.ntmps80
      go_wp2_with fail
      rw [hW.out]
      go_quiet (fail)
      go_wp2_with fail
      go_ret
      exact ⟨ret_bool (by rw [hxy'.out]; rfl), hfin.1, Kept.drewN hfin.2 _⟩

set_option maxHeartbeats 4000000 in
set_option maxRecDepth 100000 in
theorem rcmp_any (L M : List Wd) (A B : Option Addr) (c d : Nat) (w : World) (h : Src encW 3 w (fun _ => False) A L) (k : Src encW 3 w (fun _ => False) B M) (hl : L.length ≤ maxLen) (hm : M.length ≤ maxLen) (hc : L.length ≤ c) (hc2 : c ≤ maxLen) :
    Calls Tryz.prog 40 #[.slice A L.length c, .slice B M.length d] w fun e w' => e = .returned (.int .i64 (cmpR L M)) ∧ Kept (fun _ => False) w w' := by
  have ha := fun wx hx => rowMay_any L A c wx hx hl
  have hb := fun wx hx => rowMay_any M B d wx hx hm
  unfold maxLen at hc2
  cases hra : rowB L with
  | false =>
    have hr : cmpR L M = 0 := by unfold cmpR; rw [if_neg (by simp [hra])]
    rw [hr]
    rw [hra] at ha
    clear hra hr hb
    go_enter Tryz.func40, Tryz.ntmps40
    go_wp2_with fail
    refine (ha _ (h.same ((Kept.refl _ w).alloc _))).mono ?_
    rintro e w1 ⟨rfl, k1⟩
    go_wp2_with fail
    go_ret
    exact ⟨rfl, ((Kept.refl _ w).alloc _).trans k1⟩
  | true =>
    cases hrb : rowB M with
    | false =>
      have hr : cmpR L M = 0 := by unfold cmpR; rw [if_neg (by simp [hrb])]
      rw [hr]
      rw [hra] at ha
      rw [hrb] at hb
      clear hra hr hrb
      go_enter Tryz.func40, Tryz.ntmps40
      go_wp2_with fail
      refine (ha _ (h.same ((Kept.refl _ w).alloc _))).mono ?_
      rintro e w1 ⟨rfl, k1⟩
      have q1 := cell_of_row w1 w.heap.size 0 _ _ _ (k1.heap (heap_alloc_new w _) (fun q => q))
      simp only [List.getElem?_toArray, List.getElem?_cons_zero] at q1
      go_wp2_with fail
      refine (hb _ (k.same (((Kept.refl _ w).alloc _).trans k1))).mono ?_
      rintro e w2 ⟨rfl, k2⟩
      go_wp2_with fail
      go_ret
      exact ⟨rfl, (((Kept.refl _ w).alloc _).trans k1).trans k2⟩
    | true =>
      have hl8 := rowB_len hra
      have hm8 := rowB_len hrb
      have hr : cmpR L M = cmpL L M := by unfold cmpR; rw [if_pos ⟨hra, hrb⟩]
      rw [hr]
      rw [hra] at ha
      rw [hrb] at hb
      clear hra hr hrb
      obtain ⟨m, hmm⟩ : ∃ m, m = min L.length M.length := ⟨_, rfl⟩
      obtain ⟨i1, i2⟩ := find_cmp M L M 0 m rfl hmm
      have hmin : min (L.length : Int) (M.length : Int) = (m : Int) := by omega
      have hml : m ≤ L.length := by omega
      have hmM : m ≤ M.length := by omega
      have hmc : (m : Int) ≤ (c : Int) := by omega
      clear hmm
      go_enter Tryz.func40, Tryz.ntmps40
      go_wp2_with fail
      refine (ha _ (h.same ((Kept.refl _ w).alloc _))).mono ?_
      rintro e w1 ⟨rfl, k1⟩
      have hb1 := k1.heap (heap_alloc_new w _) (fun q => q)
      have q1 := cell_of_row w1 w.heap.size 0 _ _ _ hb1
      simp only [List.getElem?_toArray, List.getElem?_cons_zero] at q1
      go_wp2_with fail
      refine (hb _ (k.same (((Kept.refl _ w).alloc _).trans k1))).mono ?_
      rintro e w2 ⟨rfl, k2⟩
      have hb2 := k2.heap hb1 (fun q => q)
      have k02 : Kept (fun _ => False) w w2 := (((Kept.refl _ w).alloc _).trans k1).trans k2
      have q2 := cell_of_row w2 w.heap.size 0 _ _ _ hb2
      simp only [List.getElem?_toArray, List.getElem?_cons_zero] at q2
      clear ha hb k1 k2 hb1 q1
      have h12 := fun wx => rc1_any wx w.heap.size
      have hmf : ∀ (fn : Fn) (first cap : Array Value) (w : World), (Instr.makeFunc fn first cap).run Tryz.prog w = .ok (.func fn first cap) w := fun _ _ _ _ => rfl
      have hidx : ∀ (bi : Nat) (W : World), w.heap.size < bi → W.heap[bi]? = some (.cells #[.int .i64 (-1)] 3 (0, 0)) → W.heap[w.heap.size]? = some (.cells #[.slice B M.length d] 43 (0, 0)) → Kept (fun _ => False) w W →
          Calls Tryz.prog 78 #[.slice A m c, .func (.func 80) #[] #[.pointer (some ⟨bi, 0, none⟩), .pointer (some ⟨w.heap.size, 0, none⟩)]] W fun e W' =>
            e = .returned (.int .i64 (findI (pdB M) (L.take m) 0)) ∧ W'.heap[w.heap.size]? = some (.cells #[.slice B M.length d] 43 (0, 0)) ∧ Kept (fun _ => False) w W' := by
        intro bi W hbi h1 h2 h3
        have hlen : (L.take m).length = m := by rw [List.length_take]; omega
        have hc0 := idxV_any (L.take m) A c W 80 #[.pointer (some ⟨bi, 0, none⟩), .pointer (some ⟨w.heap.size, 0, none⟩)] (pdB M)
          (fun n V => V.heap[bi]? = some (.cells #[.int .i64 ((n : Int) - 1)] 3 (0, 0)) ∧ V.heap[w.heap.size]? = some (.cells #[.slice B M.length d] 43 (0, 0)) ∧ Kept (fun _ => False) w V)
          (by rw [hlen]; unfold maxLen; omega) (enters_of Tryz.func80 (by kernel_rfl) rfl)
          (fun n V hj => (h.same hj.2.2).take m)
          (fun n x V hj hx => by
            have hnm : n < m := by have := (List.getElem?_eq_some_iff.1 hx).1; rw [hlen] at this; exact this
            refine (rc11_any x n M B d bi w.heap.size V hj.1 hj.2.1 (by omega) (k.fresh encW_len (by decide) hj.2.2 (fun j e => by omega)) (by omega) hm8).mono ?_
            rintro e V' ⟨rfl, g1, g2⟩
            refine ⟨rfl, ?_, g2.heap hj.2.1 (by omega), hj.2.2.trans' g2 (fun _ _ q => q) (fun i hi q => by omega)⟩
            rw [show (((n + 1 : Nat) : Int) - 1) = n by omega]; exact g1)
          ⟨h1, h2, h3⟩
        rw [hlen] at hc0
        exact hc0.mono (by rintro e V' ⟨n, rfl, g1, g2, g3⟩; exact ⟨rfl, g2, g3⟩)
      have hbd := findI_bd (pdB M) (L.take m) 0
      rw [List.length_take] at hbd
      generalize findI (pdB M) (L.take m) 0 = R at *
      have I1 : Hid _ := Lib.hid i1
      have I2 : Hid _ := Lib.hid i2
      clear i1 i2
      have hp2 : w.heap.size < w2.heap.size := (Array.getElem?_eq_some_iff.1 hb2).1
      go_wp2_with fail
      go_region_with (first
        | (go_at_call 79; refine (h12 _).mono ?_; rintro e w3 ⟨rfl, hi3, k3⟩; have hb3 := k3.heap (w := w2.drew) hb2 (fun q => q); have k03 := k02.drew.trans k3)
        | (go_at_call 78; refine (hidx _ _ hp2 hi3 hb3 k03).mono ?_; rintro e w4 ⟨rfl, hb4, k4⟩))
      all_goals
        rcases hbd with rfl | ⟨i, rfl, _, hi2⟩
        · have hr : Hid (cmpL L M = Lib.compareInt L.length M.length) := I1.out rfl
          have q4 := cell_of_row w4 w.heap.size 0 _ _ _ hb4
          simp only [List.getElem?_toArray, List.getElem?_cons_zero] at q4
          have hcmp := fun wx => Tryz.cmp_Compare_int L.length M.length wx
          clear hidx hb2 q2 hi3 k3 hb3 k03 h12 I1 I2
          go_wp2_with fail
          refine (hcmp _).mono ?_
          rintro e w5 ⟨rfl, rfl⟩
          go_wp2_with fail
          go_ret
          exact ⟨ret_int hr.out.symm, k4⟩
        · obtain ⟨x, y, _, hi3', hx, hy, hr0⟩ := I2.out i rfl
          have hr : Hid (cmpL L M = cmpV x y) := hr0
          rw [Nat.sub_zero] at hx
          obtain ⟨b1, o1, rfl, _, x0, x1, x2⟩ := (h.same k4).cells3 hx
          obtain ⟨b2, o2, rfl, _, y0, y1, y2⟩ := (k.same k4).cells3 hy
          have q4 := cell_of_row w4 w.heap.size 0 _ _ _ hb4
          simp only [List.getElem?_toArray, List.getElem?_cons_zero] at q4
          have hv := fun wx => vcmp_any x y wx
          obtain ⟨xc, xn, xt⟩ := x
          obtain ⟨yc, yn, yt⟩ := y
          unfold aggW at hv
          simp only at hv x0 x1 x2 y0 y1 y2
          generalize cmpV ⟨xc, xn, xt⟩ ⟨yc, yn, yt⟩ = r at *
          have hiL : (i : Int) < (L.length : Int) := by omega
          have hiM : (i : Int) < (M.length : Int) := by omega
          clear hidx hb2 q2 hi3 k3 hb3 k03 h12 I1 I2 hx hy hr0 h k
          go_wp2_with fail
          go_region_with (go_at_call 81; refine (hv _).mono ?_; rintro e w5 ⟨rfl, k5⟩)
          all_goals
            go_wp2_with fail
            go_ret
            exact ⟨ret_int hr.out.symm, k4.drew.trans k5⟩
end Go.Proofs.YthkeigljiinlbaaGreat

/- Picked out of the text AB of TopExprs. -/
namespace Go.Proofs.YthkeigljiinlbaaGreat
open Go.RowKit

section
variable {P : Program} {α : Type} {enc : α → List Value} {sz : Nat} {w0 wr W : World} {L M : List α} {T : TypeId} {v : Value}
theorem Src.many {B : Nat} {T' : TypeId} {f : Nat × Nat} {N : Nat → Prop} (hlen : ∀ x, (enc x).length = sz) (h : W.heap[B]? = some (.cells (cellsOf enc M).toArray T' f)) (hn : ¬ N B) : Src enc sz W N (some ⟨B, 0, none⟩) M := by
  intro i x hi
  refine ⟨B, 0, rfl, hn, fun j u hu => ?_⟩
  rw [Nat.zero_add, cell_of_row W B (i * sz + j) _ _ _ h]
  rw [List.getElem?_toArray]
  exact cells_get enc sz hlen M i x j u hi hu
/-- An append of things that lie in a block: its run, and what it yields. -/
theorem New.lit (t ty : TypeId) (z : Value) (bytes : Nat) (ht : P.underlying t = some (.slice T)) (hi : (P.info? T).map (fun i => (i.zero, i.size, i.bytes)) = some (some z, sz, bytes)) (hzs : z.cells.size = sz) (hsz : 0 < sz)
    (hlen : ∀ x, (enc x).length = sz) (hone : ∀ x, ∀ u ∈ enc x, u.oneCell' = true) (h : New enc sz T w0 wr v L) (k : Kept (fun _ => False) wr W) (M : List α) (B c : Nat) {T' : TypeId} {f : Nat × Nat} (hB : W.heap[B]? = some (.cells (cellsOf enc M).toArray T' f))
    (h63 : L.length + M.length ≤ maxLen) (hb : (L.length + M.length) * bytes ≤ 140737488355328) :
    ∃ v' w', Hid ((Builtin.append_ #[t, t] ty #[v, .slice (some ⟨B, 0, none⟩) M.length c]).run P W = .ok v' w') ∧ (∃ A' c', v' = .slice A' (L.length + M.length) c' ∧ New enc sz T w0 w' v' (L ++ M)) := by
  obtain ⟨A', c', w', h1, h2, h3, h4⟩ := app_src (P := P) (M := M) (N := fun _ => False) t ty z bytes ht hi hzs hsz hlen hone (h.same k).row (some ⟨B, 0, none⟩) c (by simp) (Src.many hlen hB (fun q => q)) h63 hb
  rw [List.length_append] at h2
  exact ⟨_, w', h1, A', c', rfl, h.app k ⟨h2, h3, h4⟩⟩
/-- The same for an append of whatever lies somewhere. -/
theorem New.src (t ty : TypeId) (z : Value) (bytes : Nat) (ht : P.underlying t = some (.slice T)) (hi : (P.info? T).map (fun i => (i.zero, i.size, i.bytes)) = some (some z, sz, bytes)) (hzs : z.cells.size = sz) (hsz : 0 < sz)
    (hlen : ∀ x, (enc x).length = sz) (hone : ∀ x, ∀ u ∈ enc x, u.oneCell' = true) (h : New enc sz T w0 wr v L) (k : Kept (fun _ => False) wr W) (M : List α) (A : Option Addr) (c : Nat) (hA : A = none → M = [] ∧ c = 0) (hs : Src enc sz W (fun _ => False) A M)
    (h63 : L.length + M.length ≤ maxLen) (hb : (L.length + M.length) * bytes ≤ 140737488355328) :
    ∃ v' w', Hid ((Builtin.append_ #[t, t] ty #[v, .slice A M.length c]).run P W = .ok v' w') ∧ (∃ A' c', v' = .slice A' (L.length + M.length) c' ∧ New enc sz T w0 w' v' (L ++ M)) := by
  obtain ⟨A', c', w', h1, h2, h3, h4⟩ := app_src (P := P) (M := M) (N := fun _ => False) t ty z bytes ht hi hzs hsz hlen hone (h.same k).row A c hA hs h63 hb
  rw [List.length_append] at h2
  exact ⟨_, w', h1, A', c', rfl, h.app k ⟨h2, h3, h4⟩⟩
end

theorem New.mkL {α : Type} {enc : α → List Value} {sz : Nat} {T : TypeId} (hlen : ∀ x, (enc x).length = sz) (w : World) (M : List α) (hm : M.length ≤ maxLen) (cs : Array Value) (hcs : cs = (cellsOf enc M).toArray) (n : Nat) (hn : n = M.length) :
    New enc sz T w (w.alloc (.cells cs T)) (.slice (some ⟨w.heap.size, 0, none⟩) n n) M := by
  subst hcs hn
  have := World.ownsRow_lit (e := T) (size := sz) (base := 0) w (cellsOf enc M).toArray M.length (Nat.zero_le _) hm (by rw [List.size_toArray, cells_len enc sz hlen])
  exact ⟨this, fun j hj => by injection hj with hj; simp only at hj; omega, (Kept.refl _ w).alloc _⟩

section
variable {P : Program} {W w2 : World} {v u v' : Value} {ops : Array Oper} {rest : List Oper} {o : Oper} {a : Act} {Q : Exit → Act → World → Prop} {K : Act → World → Prop} {E : Prop}
/-- An append whose run is known to be, at the walk: the run comes last. -/
theorem wpList_ex {R : Value → World → Prop} (hgd : o.guard = none) (s x : Operand) (t t2 : TypeId) (ho : o.op = .call { callee := .builtin .append, args := #[s, x], argTypes := #[t, t2] }) (hs : a.eval s = v) (hx : a.eval x = u)
    (hrun : ∃ v' w', Hid ((Builtin.append_ #[t, t2] o.type #[v, u]).run P W = .ok v' w') ∧ R v' w') (h : ∀ v' w', R v' w' → wpList P ops Q rest (a.put o.dst v') w') : wpList P ops Q (o :: rest) a W := by
  obtain ⟨v', w', h1, h2⟩ := hrun
  exact wpList_run2 hgd s x t t2 ho hs hx h1 (h v' w' h2)
theorem step_run2 (hgd : o.guard = none) (s x : Operand) (t t2 : TypeId)
    (ho : o.op = .call { callee := .builtin .append, args := #[s, x], argTypes := #[t, t2] }) (hs : a.eval s = v) (hx : a.eval x = u)
    (hrun : Hid ((Builtin.append_ #[t, t2] o.type #[v, u]).run P W = .ok v' w2)) (h : K (a.put o.dst v') w2) :
    if Region.wanted o (yielded ops a.tmps) = true then Oper.wp P o a W K Q else E := by
  have hw : Region.wanted o (yielded ops a.tmps) = true := by simp [Region.wanted, hgd]
  rw [if_pos hw]
  unfold Hid at hrun
  unfold Oper.wp execOp
  simp only [ho, resolve, invoke, builtin, Sem.run_bind, Sem.run_pure, Result.andThen_ok, List.map_toArray, List.map_cons, List.map_nil, hs, hx, hrun]
  exact h
theorem step_ex {R : Value → World → Prop} (hgd : o.guard = none) (s x : Operand) (t t2 : TypeId) (ho : o.op = .call { callee := .builtin .append, args := #[s, x], argTypes := #[t, t2] }) (hs : a.eval s = v) (hx : a.eval x = u)
    (hrun : ∃ v' w', Hid ((Builtin.append_ #[t, t2] o.type #[v, u]).run P W = .ok v' w') ∧ R v' w') (h : ∀ v' w', R v' w' → K (a.put o.dst v') w') :
    if Region.wanted o (yielded ops a.tmps) = true then Oper.wp P o a W K Q else E := by
  obtain ⟨v', w', h1, h2⟩ := hrun
  exact step_run2 hgd s x t t2 ho hs hx h1 (h v' w' h2)
end

end Go.Proofs.YthkeigljiinlbaaGreat
