/- eval: a word over the stack. -/
import Derived.Test.YtballmombklalaaGreatM26
import Derived.Deep.RegionHeld
namespace Go.Proofs.YtballmombklalaaGreat
open Go.RowKit

/-- A word over the things that wait, the last one first. -/
def wordE (r : List Wd) (o : Wd) (st : List Wd) : Except Int (List Wd) :=
  if o.c = 1 then .ok (numW o.n :: st)
  else if o.c = 2 then .ok (strW o.t :: st)
  else if o.c = 3 then (match r[o.n.toNat]? with
    | some v => .ok ((if v.c = 1 then numW v.n else strW v.t) :: st)
    | none => .error 3)
  else match st with
    | [] => .error 0
    | x :: st1 =>
      if o.c = 4 then (match asN x with
        | .error y => .error y
        | .ok n => match sureE (negS n) with
          | .error y => .error y
          | .ok z => .ok (z :: st1))
      else if o.c = 5 then (match asN x with
        | .error y => .error y
        | .ok n => .ok (truthW (n == 0) :: st1))
      else if o.c = 6 then (match asT x with
        | .error y => .error y
        | .ok t => .ok (numW t.length :: st1))
      else match st1 with
        | [] => .error 0
        | a :: st2 => match pairE o.c a x with
          | .error y => .error y
          | .ok z => .ok (z :: st2)
def WP (p : Nat) (w : World) (R : Except Int (List Wd)) (e : Ending) (w' : World) : Prop :=
  match R with
  | .error y => e = .panicked (faultE y) ∧ Kept (fun j => p ≤ j) w w'
  | .ok st => e = .returned (.tuple #[]) ∧ SK w' p st ∧ Kept (fun j => p ≤ j) w w'

set_option maxHeartbeats 4000000 in
set_option maxRecDepth 100000 in
theorem word_s (p : Nat) (st0 r : List Wd) (o : Wd) (A : Option Addr) (cp : Nat) (w : World) (h : SK w p st0) (hst : ∀ x ∈ st0, thB x) (hl : st0.length ≤ 900) (hw : wdB o = true) (htk : takesI o.c ≤ st0.length) (hr : Src encW 3 w (fun _ => False) A r) (hrl : r.length ≤ 8) :
    Calls Tryz.prog 48 #[.pointer (some ⟨p, 0, none⟩), aggW o, .slice A r.length cp] w (WP p w (wordE r o st0)) := by
  obtain ⟨c1, c2, _, c4⟩ := wd_bd hw
  obtain ⟨c, on, ot⟩ := o
  unfold aggW
  simp only at c1 c2 c4 htk
  obtain ⟨v0, hv0, _⟩ := id h
  have hpw := (Array.getElem?_eq_some_iff.1 hv0).1
  have ka := (Kept.refl (fun _ => False) w).alloc (.cells #[.int .i64 c, .int .i64 on, .string ⟨⟨ot⟩⟩] 62)
  have hbx := heap_alloc_new w (.cells #[.int .i64 c, .int .i64 on, .string ⟨⟨ot⟩⟩] 62)
  have hsk := h.same ka (fun _ _ q => q)
  have kge : ∀ (a b : World), Kept (MayP a p) a b → Kept (fun j => p ≤ j) a b := fun a b k => k.mono (fun _ _ q => mayp_ge q)
  have kF : ∀ (a b : World), Kept (fun _ => False) a b → Kept (fun j => p ≤ j) a b := fun a b k => k.mono (fun _ _ q => q.elim)
  have kE : ∀ (a b : World), Kept (fun j => j = p) a b → Kept (fun j => p ≤ j) a b := fun a b k => k.mono (fun _ _ q => Nat.le_of_eq q.symm)
  have hcs : c = 1 ∨ c = 2 ∨ c = 3 ∨ c = 4 ∨ c = 5 ∨ c = 6 ∨ 7 ≤ c := by omega
  clear hv0 h
  rcases hcs with rfl | rfl | rfl | rfl | rfl | rfl | h7
  · rw [show wordE r ⟨1, on, ot⟩ st0 = .ok (numW on :: st0) from rfl]
    have hpu := push_any p st0 (numW on) _ hsk (by omega)
    rw [thE_num] at hpu
    clear hbx
    go_enter Tryz.func48, Tryz.ntmps48
    go_wp2_with fail
    refine hpu.mono ?_
    rintro e w1 ⟨rfl, h1, k1⟩
    go_wp2_with fail
    go_end0
    exact ⟨rfl, h1, (kF _ _ ka).trans (kge _ _ k1)⟩
  · rw [show wordE r ⟨2, on, ot⟩ st0 = .ok (strW ot :: st0) from rfl]
    have hpu := push_any p st0 (strW ot) _ hsk (by omega)
    rw [thE_str] at hpu
    clear hbx
    go_enter Tryz.func48, Tryz.ntmps48
    go_wp2_with fail
    refine hpu.mono ?_
    rintro e w1 ⟨rfl, h1, k1⟩
    go_wp2_with fail
    go_end0
    exact ⟨rfl, h1, (kF _ _ ka).trans (kge _ _ k1)⟩
  · obtain ⟨n0, _⟩ := c4 rfl
    obtain ⟨k, rfl⟩ := Int.eq_ofNat_of_zero_le n0
    have e : wordE r ⟨3, (k : Int), ot⟩ st0 = (match r[k]? with
      | some v => .ok ((if v.c = 1 then numW v.n else strW v.t) :: st0)
      | none => .error 3) := rfl
    rw [e]
    clear e
    by_cases hk : k < r.length
    · obtain ⟨x, hx⟩ : ∃ x, r[k]? = some x := ⟨_, List.getElem?_eq_getElem hk⟩
      rw [hx]
      simp only
      obtain ⟨b, off, rfl, _, x0, x1, x2⟩ := (hr.same ka).cells3 hx
      have hy := fun wx => eneed_yes 3 wx
      have hk' : decide ((k : Int) < (r.length : Int)) = true := by simp; omega
      obtain ⟨xc, xn, xt⟩ := x
      simp only at x0 x1 x2 ⊢
      have kb := ka.alloc (.cells #[.int .i64 xc, .int .i64 xn, .string ⟨⟨xt⟩⟩] 52)
      by_cases g : xc = 1
      · have g' : (xc == 1) = true := by simpa using g
        rw [if_pos g]
        have hpu := push_any p st0 (numW xn) _ (hsk.same ((Kept.refl (fun _ => False) _).alloc (.cells #[.int .i64 xc, .int .i64 xn, .string ⟨⟨xt⟩⟩] 52)) (fun _ _ q => q)) (by omega)
        rw [thE_num] at hpu
        clear g hbx hx
        go_enter Tryz.func48, Tryz.ntmps48
        go_wp2_with fail
        refine (hy _).mono ?_
        rintro e w1 ⟨rfl, rfl⟩
        go_wp2_with fail
        refine hpu.mono ?_
        rintro e w1 ⟨rfl, h1, k1⟩
        go_wp2_with fail
        go_end0
        exact ⟨rfl, h1, (kF _ _ kb).trans (kge _ _ k1)⟩
      · have g' : (xc == 1) = false := by simpa using g
        rw [if_neg g]
        have hpu := push_any p st0 (strW xt) _ (hsk.same ((Kept.refl (fun _ => False) _).alloc (.cells #[.int .i64 xc, .int .i64 xn, .string ⟨⟨xt⟩⟩] 52)) (fun _ _ q => q)) (by omega)
        rw [thE_str] at hpu
        clear g hbx hx
        go_enter Tryz.func48, Tryz.ntmps48
        go_wp2_with fail
        refine (hy _).mono ?_
        rintro e w1 ⟨rfl, rfl⟩
        go_wp2_with fail
        refine hpu.mono ?_
        rintro e w1 ⟨rfl, h1, k1⟩
        go_wp2_with fail
        go_end0
        exact ⟨rfl, h1, (kF _ _ kb).trans (kge _ _ k1)⟩
    · rw [List.getElem?_eq_none (by omega)]
      simp only
      have hn := fun wx => eneed_no 3 wx
      have hk' : decide ((k : Int) < (r.length : Int)) = false := by simp; omega
      clear hbx
      go_enter Tryz.func48, Tryz.ntmps48
      go_wp2_with fail
      refine (hn _).mono ?_
      rintro e w1 ⟨rfl, rfl⟩
      exact ⟨rfl, rfl, kF _ _ ka⟩
  · cases st0 with
    | nil => simp [takesI] at htk
    | cons x st =>
      have e : wordE r ⟨4, on, ot⟩ (x :: st) = (match asN x with
        | .error y => .error y
        | .ok n => match sureE (negS n) with
          | .error y => .error y
          | .ok z => .ok (z :: st)) := rfl
      rw [e]
      clear e
      have hxb := hst x (by simp)
      have hpo := pop_any p st x _ hsk
      have han := fun wx => asnum_any x wx
      have hng := fun (n : Int) (hn : asN x = .ok n) wx => neg_any n wx (thB_num hxb hn)
      simp only [List.length_cons] at hl
      generalize asN x = RN at *
      cases RN with
      | error y =>
        clear hng hbx
        go_enter Tryz.func48, Tryz.ntmps48
        go_wp2_with fail
        refine hpo.mono ?_
        rintro e w1 ⟨rfl, h1, k1⟩
        go_wp2_with fail
        refine (han _).mono ?_
        rintro e w2 ⟨rfl, k2⟩
        exact ⟨rfl, rfl, ((kF _ _ ka).trans (kE _ _ k1)).trans (kF _ _ k2)⟩
      | ok n =>
        have hng2 := hng n rfl
        have hsu := fun wx => sure_any (negS n).1 (negS n).2 wx
        have hsn := @sure_num (negS n)
        simp only
        generalize negS n = q at *
        obtain ⟨q1, q2⟩ := q
        simp only at hng2 hsu hsn
        generalize sureE (q1, q2) = RS at *
        clear hng hbx
        go_enter Tryz.func48, Tryz.ntmps48
        go_wp2_with fail
        refine hpo.mono ?_
        rintro e w1 ⟨rfl, h1, k1⟩
        go_wp2_with fail
        refine (han _).mono ?_
        rintro e w2 ⟨rfl, k2⟩
        go_wp2_with fail
        refine (hng2 _).mono ?_
        rintro e w3 ⟨rfl, rfl⟩
        go_wp2_with fail
        cases RS with
        | error y =>
          refine (hsu _).mono ?_
          rintro e w4 ⟨rfl, k4⟩
          exact ⟨rfl, rfl, (((kF _ _ ka).trans (kE _ _ k1)).trans (kF _ _ k2)).trans (kF _ _ k4)⟩
        | ok z =>
          have hz := hsn rfl
          subst hz
          refine (hsu _).mono ?_
          rintro e w4 ⟨rfl, k4⟩
          have hpu := push_any p st (numW q1) _ (h1.same (k2.trans k4) (fun _ _ q => q)) (by omega)
          rw [thE_num] at hpu
          go_wp2_with fail
          refine hpu.mono ?_
          rintro e w5 ⟨rfl, h5, k5⟩
          go_wp2_with fail
          go_end0
          exact ⟨rfl, h5, ((((kF _ _ ka).trans (kE _ _ k1)).trans (kF _ _ k2)).trans (kF _ _ k4)).trans (kge _ _ k5)⟩
  · cases st0 with
    | nil => simp [takesI] at htk
    | cons x st =>
      have e : wordE r ⟨5, on, ot⟩ (x :: st) = (match asN x with
        | .error y => .error y
        | .ok n => .ok (truthW (n == 0) :: st)) := rfl
      rw [e]
      clear e
      have hpo := pop_any p st x _ hsk
      have han := fun wx => asnum_any x wx
      have htr := fun z wx => truth_any z wx
      simp only [List.length_cons] at hl
      generalize asN x = RN at *
      cases RN with
      | error y =>
        clear hbx
        go_enter Tryz.func48, Tryz.ntmps48
        go_wp2_with fail
        refine hpo.mono ?_
        rintro e w1 ⟨rfl, h1, k1⟩
        go_wp2_with fail
        refine (han _).mono ?_
        rintro e w2 ⟨rfl, k2⟩
        exact ⟨rfl, rfl, ((kF _ _ ka).trans (kE _ _ k1)).trans (kF _ _ k2)⟩
      | ok n =>
        simp only
        clear hbx
        go_enter Tryz.func48, Tryz.ntmps48
        go_wp2_with fail
        refine hpo.mono ?_
        rintro e w1 ⟨rfl, h1, k1⟩
        go_wp2_with fail
        refine (han _).mono ?_
        rintro e w2 ⟨rfl, k2⟩
        go_wp2_with fail
        refine (htr _ _).mono ?_
        rintro e w4 ⟨rfl, rfl⟩
        have hpu := push_any p st (truthW (n == 0)) _ (h1.same k2 (fun _ _ q => q)) (by omega)
        rw [show thE (truthW (n == 0)) = .iface 156 (.int .i64 (truthW (n == 0)).n) from thE_num _] at hpu
        go_wp2_with fail
        refine hpu.mono ?_
        rintro e w5 ⟨rfl, h5, k5⟩
        go_wp2_with fail
        go_end0
        exact ⟨rfl, h5, (((kF _ _ ka).trans (kE _ _ k1)).trans (kF _ _ k2)).trans (kge _ _ k5)⟩
  · cases st0 with
    | nil => simp [takesI] at htk
    | cons x st =>
      have e : wordE r ⟨6, on, ot⟩ (x :: st) = (match asT x with
        | .error y => .error y
        | .ok t => .ok (numW t.length :: st)) := rfl
      rw [e]
      clear e
      have hpo := pop_any p st x _ hsk
      have han := fun wx => astext_any x wx
      simp only [List.length_cons] at hl
      generalize asT x = RN at *
      cases RN with
      | error y =>
        clear hbx
        go_enter Tryz.func48, Tryz.ntmps48
        go_wp2_with fail
        refine hpo.mono ?_
        rintro e w1 ⟨rfl, h1, k1⟩
        go_wp2_with fail
        refine (han _).mono ?_
        rintro e w2 ⟨rfl, k2⟩
        exact ⟨rfl, rfl, ((kF _ _ ka).trans (kE _ _ k1)).trans (kF _ _ k2)⟩
      | ok t =>
        simp only
        clear hbx
        go_enter Tryz.func48, Tryz.ntmps48
        go_wp2_with fail
        refine hpo.mono ?_
        rintro e w1 ⟨rfl, h1, k1⟩
        go_wp2_with fail
        refine (han _).mono ?_
        rintro e w2 ⟨rfl, k2⟩
        have hpu := push_any p st (numW t.length) _ (h1.same k2 (fun _ _ q => q)) (by omega)
        rw [thE_num] at hpu
        go_wp2_with fail
        refine hpu.mono ?_
        rintro e w5 ⟨rfl, h5, k5⟩
        go_wp2_with fail
        go_end0
        exact ⟨rfl, h5, (((kF _ _ ka).trans (kE _ _ k1)).trans (kF _ _ k2)).trans (kge _ _ k5)⟩
  · have htk2 : takesI c = 2 := by unfold takesI; rw [if_neg (by omega), if_neg (by omega), if_pos (by omega)]
    rw [htk2] at htk
    obtain ⟨x, a, st, rfl⟩ : ∃ x a st, st0 = x :: a :: st := by
      match st0, htk with
      | [], h => simp at h
      | [_], h => simp at h
      | x :: a :: st, _ => exact ⟨x, a, st, rfl⟩
    have e : wordE r ⟨c, on, ot⟩ (x :: a :: st) = (match pairE c a x with
      | .error y => .error y
      | .ok z => .ok (z :: st)) := by
      unfold wordE
      simp only
      rw [if_neg (by omega), if_neg (by omega), if_neg (by omega), if_neg (by omega), if_neg (by omega), if_neg (by omega)]
    rw [e]
    clear e
    have hpr := fun wx => pair_any c a x (hst a (by simp)) (hst x (by simp)) wx
    have hpo := pop_any p (a :: st) x _ hsk
    simp only [List.length_cons] at hl
    obtain ⟨bx, hbxs⟩ : ∃ bx, w.heap.size = bx := ⟨_, rfl⟩
    rw [hbxs] at hbx hpw
    have hne : ¬ bx = p := by omega
    have hnm : ∀ {Y : World}, Y.heap[bx]? = some (.cells #[.int .i64 c, .int .i64 on, .string ⟨⟨ot⟩⟩] 62 (0, 0)) → ¬ MayP Y p bx := by
      rintro Y hy (q | ⟨_, cs, f, q⟩)
      · exact hne q
      · rw [hy] at q
        injection q with q
        injection q with _ q
        exact absurd q (by decide)
    have g1 : (c == 1) = false := by rw [beq_eq_false_iff_ne]; omega
    have g2 : (c == 2) = false := by rw [beq_eq_false_iff_ne]; omega
    have g3 : (c == 3) = false := by rw [beq_eq_false_iff_ne]; omega
    have g4 : (c == 4) = false := by rw [beq_eq_false_iff_ne]; omega
    have g5 : (c == 5) = false := by rw [beq_eq_false_iff_ne]; omega
    have g6 : (c == 6) = false := by rw [beq_eq_false_iff_ne]; omega
    generalize pairE c a x = RP at *
    cases RP with
    | error y =>
      clear hst hr hsk htk2 htk h7 c4 hw
      go_enter Tryz.func48, Tryz.ntmps48
      go_wp2_with fail
      refine hpo.mono ?_
      rintro e w1 ⟨rfl, hsk1, k0⟩
      have db : w1.drew.heap[bx]? = some (.cells #[.int .i64 c, .int .i64 on, .string ⟨⟨ot⟩⟩] 62 (0, 0)) := k0.heap hbx hne
      have d0 := cell_of_row w1.drew bx 0 _ _ _ db
      simp only [List.getElem?_toArray, List.getElem?_cons_zero] at d0
      go_wp2_with fail
      refine wp_region_held_drew (S := (fun Y => Y.cell? ⟨bx, 0, none⟩ = some (.int .i64 c) ∧ Y.heap[bx]? = some (.cells #[.int .i64 c, .int .i64 on, .string ⟨⟨ot⟩⟩] 62 (0, 0)))) (by kernel_rfl) ⟨d0, db⟩ (fun hHeld => ?_)
      refine wpAnyH_take (i := 0) (oi := _) (v := ?_) rfl (by kernel_rfl) (by kernel_rfl) (by kernel_rfl) (fun _ _ _ h => h) (Or.inl ⟨by rfl, ?_⟩) (by assumption) ?_
      rotate_left
      · (intro w hSw; (try dsimp only at hSw); simp only [List.getElem_toArray, List.getElem_cons_zero]; go_simp)
        try with_reducible rfl
      simp only [List.getElem_toArray, List.getElem_cons_zero, Act.put, List.setIfInBounds_toArray, List.set_cons_zero, List.set_cons_succ]
      refine wpAnyH_take (i := 1) (oi := _) (v := ?_) rfl (by kernel_rfl) (by kernel_rfl) (by kernel_rfl) (fun _ _ _ h => h) (Or.inl ⟨by rfl, ?_⟩) (by assumption) ?_
      rotate_left
      · (intro w hSw; (try dsimp only at hSw); simp only [List.getElem_toArray, List.getElem_cons_succ, List.getElem_cons_zero]; go_simp)
        try with_reducible rfl
      simp only [List.getElem_toArray, List.getElem_cons_succ, List.getElem_cons_zero, Act.put, List.setIfInBounds_toArray, List.set_cons_zero, List.set_cons_succ]
      refine wpAnyH_take (i := 2) (oi := _) (v := ?_) rfl (by kernel_rfl) (by kernel_rfl) (by kernel_rfl) (fun _ _ _ h => h) (Or.inl ⟨by rfl, ?_⟩) (by assumption) ?_
      rotate_left
      · (intro w hSw; (try dsimp only at hSw); simp only [List.getElem_toArray, List.getElem_cons_succ, List.getElem_cons_zero]; go_simp)
        try with_reducible rfl
      simp only [List.getElem_toArray, List.getElem_cons_succ, List.getElem_cons_zero, Act.put, List.setIfInBounds_toArray, List.set_cons_zero, List.set_cons_succ]
      refine wpAnyH_take (i := 3) (oi := _) (v := ?_) rfl (by kernel_rfl) (by kernel_rfl) (by kernel_rfl) (fun _ _ _ h => h) (Or.inl ⟨by rfl, ?_⟩) (by assumption) ?_
      rotate_left
      · (intro w hSw; (try dsimp only at hSw); simp only [List.getElem_toArray, List.getElem_cons_succ, List.getElem_cons_zero]; go_simp)
        try with_reducible rfl
      simp only [List.getElem_toArray, List.getElem_cons_succ, List.getElem_cons_zero, Act.put, List.setIfInBounds_toArray, List.set_cons_zero, List.set_cons_succ]
      refine wpAnyH_take (i := 5) (oi := _) (v := ?_) rfl (by kernel_rfl) (by kernel_rfl) (by kernel_rfl) (fun _ _ _ h => h) (Or.inl ⟨by rfl, ?_⟩) (by assumption) ?_
      rotate_left
      · (intro w hSw; (try dsimp only at hSw); simp only [List.getElem_toArray, List.getElem_cons_succ, List.getElem_cons_zero]; go_simp)
        try with_reducible rfl
      simp only [List.getElem_toArray, List.getElem_cons_succ, List.getElem_cons_zero, Act.put, List.setIfInBounds_toArray, List.set_cons_zero, List.set_cons_succ]
      refine wpAnyH_ready (rs := [4]) (by kernel_rfl) (by simp) ?_
      refine AllReadyH.cons (o := _) rfl (fun K hK => ?_) AllReadyH.nil
      simp only [List.getElem_toArray, List.getElem_cons_succ, List.getElem_cons_zero]
      go_simp
      refine (pop_any p st a _ (hsk1.same ((Kept.refl (fun _ => False) w1).drew) (fun _ _ q => q))).mono ?_
      rintro e w2 ⟨rfl, hsk2, k1⟩
      refine hK.out _ _ ⟨k1.cell (w := w1.drew) d0 hne, k1.heap db hne⟩ (fun hHeld => ?_)
      clear hK K
      try simp only [List.getElem_toArray, List.getElem_cons_succ, List.getElem_cons_zero, Act.put, List.setIfInBounds_toArray, List.set_cons_zero, List.set_cons_succ]
      refine wpAnyH_ready (rs := [6]) (by kernel_rfl) (by simp) ?_
      refine AllReadyH.cons (o := _) rfl (fun K hK => ?_) AllReadyH.nil
      simp only [List.getElem_toArray, List.getElem_cons_succ, List.getElem_cons_zero]
      go_simp
      refine (hpr _).mono ?_
      rintro e w3 ⟨rfl, k2⟩

      exact ⟨rfl, rfl, (((kF _ _ ka).trans (kE _ _ k0)).trans (kE _ _ (show Kept _ w1 w2 from (Kept.refl _ w1).drew.trans k1))).trans (kF _ _ k2)⟩
    | ok y =>
      clear hst hr hsk htk2 htk h7 c4 hw
      simp only
      go_enter Tryz.func48, Tryz.ntmps48
      go_wp2_with fail
      refine hpo.mono ?_
      rintro e w1 ⟨rfl, hsk1, k0⟩
      have db : w1.drew.heap[bx]? = some (.cells #[.int .i64 c, .int .i64 on, .string ⟨⟨ot⟩⟩] 62 (0, 0)) := k0.heap hbx hne
      have d0 := cell_of_row w1.drew bx 0 _ _ _ db
      simp only [List.getElem?_toArray, List.getElem?_cons_zero] at d0
      go_wp2_with fail
      refine wp_region_held_drew (S := (fun Y => Y.cell? ⟨bx, 0, none⟩ = some (.int .i64 c) ∧ Y.heap[bx]? = some (.cells #[.int .i64 c, .int .i64 on, .string ⟨⟨ot⟩⟩] 62 (0, 0)))) (by kernel_rfl) ⟨d0, db⟩ (fun hHeld => ?_)
      refine wpAnyH_take (i := 0) (oi := _) (v := ?_) rfl (by kernel_rfl) (by kernel_rfl) (by kernel_rfl) (fun _ _ _ h => h) (Or.inl ⟨by rfl, ?_⟩) (by assumption) ?_
      rotate_left
      · (intro w hSw; (try dsimp only at hSw); simp only [List.getElem_toArray, List.getElem_cons_zero]; go_simp)
        try with_reducible rfl
      simp only [List.getElem_toArray, List.getElem_cons_zero, Act.put, List.setIfInBounds_toArray, List.set_cons_zero, List.set_cons_succ]
      refine wpAnyH_take (i := 1) (oi := _) (v := ?_) rfl (by kernel_rfl) (by kernel_rfl) (by kernel_rfl) (fun _ _ _ h => h) (Or.inl ⟨by rfl, ?_⟩) (by assumption) ?_
      rotate_left
      · (intro w hSw; (try dsimp only at hSw); simp only [List.getElem_toArray, List.getElem_cons_succ, List.getElem_cons_zero]; go_simp)
        try with_reducible rfl
      simp only [List.getElem_toArray, List.getElem_cons_succ, List.getElem_cons_zero, Act.put, List.setIfInBounds_toArray, List.set_cons_zero, List.set_cons_succ]
      refine wpAnyH_take (i := 2) (oi := _) (v := ?_) rfl (by kernel_rfl) (by kernel_rfl) (by kernel_rfl) (fun _ _ _ h => h) (Or.inl ⟨by rfl, ?_⟩) (by assumption) ?_
      rotate_left
      · (intro w hSw; (try dsimp only at hSw); simp only [List.getElem_toArray, List.getElem_cons_succ, List.getElem_cons_zero]; go_simp)
        try with_reducible rfl
      simp only [List.getElem_toArray, List.getElem_cons_succ, List.getElem_cons_zero, Act.put, List.setIfInBounds_toArray, List.set_cons_zero, List.set_cons_succ]
      refine wpAnyH_take (i := 3) (oi := _) (v := ?_) rfl (by kernel_rfl) (by kernel_rfl) (by kernel_rfl) (fun _ _ _ h => h) (Or.inl ⟨by rfl, ?_⟩) (by assumption) ?_
      rotate_left
      · (intro w hSw; (try dsimp only at hSw); simp only [List.getElem_toArray, List.getElem_cons_succ, List.getElem_cons_zero]; go_simp)
        try with_reducible rfl
      simp only [List.getElem_toArray, List.getElem_cons_succ, List.getElem_cons_zero, Act.put, List.setIfInBounds_toArray, List.set_cons_zero, List.set_cons_succ]
      refine wpAnyH_take (i := 5) (oi := _) (v := ?_) rfl (by kernel_rfl) (by kernel_rfl) (by kernel_rfl) (fun _ _ _ h => h) (Or.inl ⟨by rfl, ?_⟩) (by assumption) ?_
      rotate_left
      · (intro w hSw; (try dsimp only at hSw); simp only [List.getElem_toArray, List.getElem_cons_succ, List.getElem_cons_zero]; go_simp)
        try with_reducible rfl
      simp only [List.getElem_toArray, List.getElem_cons_succ, List.getElem_cons_zero, Act.put, List.setIfInBounds_toArray, List.set_cons_zero, List.set_cons_succ]
      refine wpAnyH_ready (rs := [4]) (by kernel_rfl) (by simp) ?_
      refine AllReadyH.cons (o := _) rfl (fun K hK => ?_) AllReadyH.nil
      simp only [List.getElem_toArray, List.getElem_cons_succ, List.getElem_cons_zero]
      go_simp
      refine (pop_any p st a _ (hsk1.same ((Kept.refl (fun _ => False) w1).drew) (fun _ _ q => q))).mono ?_
      rintro e w2 ⟨rfl, hsk2, k1⟩
      refine hK.out _ _ ⟨k1.cell (w := w1.drew) d0 hne, k1.heap db hne⟩ (fun hHeld => ?_)
      clear hK K
      try simp only [List.getElem_toArray, List.getElem_cons_succ, List.getElem_cons_zero, Act.put, List.setIfInBounds_toArray, List.set_cons_zero, List.set_cons_succ]
      refine wpAnyH_ready (rs := [6]) (by kernel_rfl) (by simp) ?_
      refine AllReadyH.cons (o := _) rfl (fun K hK => ?_) AllReadyH.nil
      simp only [List.getElem_toArray, List.getElem_cons_succ, List.getElem_cons_zero]
      go_simp
      refine (hpr _).mono ?_
      rintro e w3 ⟨rfl, k2⟩
      refine hK.out _ _ ⟨k2.cell (k1.cell (w := w1.drew) d0 hne) (fun q => q), k2.heap (k1.heap db hne) (fun q => q)⟩ (fun hHeld => ?_)
      clear hK K
      try simp only [List.getElem_toArray, List.getElem_cons_succ, List.getElem_cons_zero, Act.put, List.setIfInBounds_toArray, List.set_cons_zero, List.set_cons_succ]
      refine wpAnyH_ready (rs := [7]) (by kernel_rfl) (by simp) ?_
      refine AllReadyH.cons (o := _) rfl (fun K hK => ?_) AllReadyH.nil
      simp only [List.getElem_toArray, List.getElem_cons_succ, List.getElem_cons_zero]
      go_simp
      refine (push_any p st y w3 (hsk2.same k2 (fun _ _ q => q)) (by omega)).mono ?_
      rintro e w4 ⟨rfl, hsk4, k3⟩
      refine hK.out _ _ ⟨k3.cell (k2.cell (k1.cell (w := w1.drew) d0 hne) (fun q => q)) (hnm (k2.heap (k1.heap db hne) (fun q => q))), k3.heap (k2.heap (k1.heap db hne) (fun q => q)) (hnm (k2.heap (k1.heap db hne) (fun q => q)))⟩ (fun hHeld => ?_)
      clear hK K
      try simp only [List.getElem_toArray, List.getElem_cons_succ, List.getElem_cons_zero, Act.put, List.setIfInBounds_toArray, List.set_cons_zero, List.set_cons_succ]
      refine wpAnyH_done (by kernel_rfl) ?_ _

      go_wp2_with fail
      go_end0
      exact ⟨rfl, hsk4, ((((kF _ _ ka).trans (kE _ _ k0)).trans (kE _ _ (show Kept _ w1 w2 from (Kept.refl _ w1).drew.trans k1))).trans (kF _ _ k2)).trans (kge _ _ k3)⟩
end Go.Proofs.YtballmombklalaaGreat
