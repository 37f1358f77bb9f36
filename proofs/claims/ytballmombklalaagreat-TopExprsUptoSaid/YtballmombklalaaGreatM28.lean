/- eval: Eval, Holds. -/
import Derived.Test.YtballmombklalaaGreatM27
import Derived.Defers
import Derived.Recover
namespace Go.Proofs.YtballmombklalaaGreat
open Go.RowKit

def runE (r : List Wd) : List Wd → List Wd → Except Int (List Wd)
  | [], st => .ok st
  | o :: x, st => match wordE r o st with
    | .error y => .error y
    | .ok st' => runE r x st'
/-- An expression's answer over a row. -/
def evalS (x r : List Wd) : Wd × Int :=
  if formI x = 0 then (if rowB r = true then (match runE r x [] with
    | .error y => (⟨0, 0, []⟩, y)
    | .ok st => (st.headD ⟨0, 0, []⟩, 0)) else (⟨0, 0, []⟩, 2)) else (⟨0, 0, []⟩, formI x)

theorem over_I64 (b : Bool) (c : Int) (h : I64 c) : I64 (overS b c).1 := by unfold overS; split <;> first | exact h | (unfold I64; simp)
theorem wrap_I64 (a : Int) : I64 (wrap64 a) := by unfold I64 wrap64; omega
theorem sure_th {q : Int × Int} {z : Wd} (h : sureE q = .ok z) (hq : I64 q.1) : thB z := by
  have := sure_num h
  subst this
  exact .inl ⟨rfl, hq, rfl⟩
theorem truth_th (b : Bool) : thB (truthW b) := .inl ⟨rfl, by cases b <;> (unfold I64 truthW numW; simp), rfl⟩
theorem num_th {n : Int} (h : I64 n) : thB (numW n) := .inl ⟨rfl, h, rfl⟩
theorem str_th {t : List UInt8} (h : t.length ≤ 64) : thB (strW t) := .inr ⟨rfl, rfl, h⟩
theorem mul_I64 (a b : Int) : I64 (mulS a b).1 := by
  unfold mulS
  split
  · unfold I64; simp
  · refine signedS_bd _ _ ?_
    omega
theorem quo_I64 (a b : Int) : I64 (quoS a b).1 := by
  unfold quoS
  split
  · unfold I64; simp
  · refine signedS_bd _ _ (Int.ediv_nonneg ?_ ?_) <;> (unfold absI; split <;> omega)
theorem rem_I64 (a b : Int) : I64 (remS a b).1 := by
  unfold remS
  split
  · unfold I64; simp
  · rename_i hb
    refine signedS_bd _ _ (Int.emod_nonneg _ ?_)
    unfold absI
    split <;> omega
theorem two_th {c a b : Int} {z : Wd} (h : twoE c a b = .ok z) : thB z := by
  unfold twoE at h
  split at h
  · exact sure_th h (over_I64 _ _ (wrap_I64 _))
  · split at h
    · exact sure_th h (over_I64 _ _ (wrap_I64 _))
    · split at h
      · exact sure_th h (mul_I64 _ _)
      · split at h
        · exact sure_th h (quo_I64 _ _)
        · split at h
          · exact sure_th h (rem_I64 _ _)
          · split at h
            · injection h with h; subst h; exact truth_th _
            · injection h with h; subst h; exact truth_th _
theorem pair_th {c : Int} {a b z : Wd} (h : pairE c a b = .ok z) : thB z := by
  unfold pairE at h
  split at h
  · split at h
    · split at h
      · rename_i hl
        injection h with h
        subst h
        exact str_th (by simp only [List.length_append]; omega)
      · cases h
    · cases h
  · split at h
    · unfold cmpE at h
      split at h
      · injection h with h; subst h; exact truth_th _
      · cases h
    · split at h
      · exact two_th h
      · cases h
theorem neg_I64 (a : Int) : I64 (negS a).1 := signedS_bd _ _ (by unfold absI; split <;> omega)
/-- What a word leaves. -/
theorem word_th {r st st' : List Wd} {o : Wd} (hr : ∀ v ∈ r, thB v) (hst : ∀ x ∈ st, thB x) (hw : wdB o = true) (hn : I64 o.n) (h : wordE r o st = .ok st') : (∀ x ∈ st', thB x) ∧ (st'.length : Int) = st.length + (1 - takesI o.c) := by
  obtain ⟨hc1, hc2, h2, _⟩ := wd_bd hw
  have cons_th : ∀ (z : Wd) (l : List Wd), thB z → (∀ x ∈ l, thB x) → ∀ x ∈ z :: l, thB x := by
    intro z l hz hl x hx
    rcases List.mem_cons.1 hx with rfl | hx
    · exact hz
    · exact hl x hx
  unfold wordE at h
  split at h
  · rename_i e
    injection h with h; subst h
    exact ⟨cons_th _ _ (num_th hn) hst, by rw [e]; simp [takesI]⟩
  · split at h
    · rename_i e
      injection h with h; subst h
      exact ⟨cons_th _ _ (str_th (h2 e)) hst, by rw [e]; simp [takesI]⟩
    · split at h
      · rename_i e
        split at h
        · rename_i v hv
          injection h with h; subst h
          refine ⟨cons_th _ _ ?_ hst, by rw [e]; simp [takesI]⟩
          have hvt := hr v (List.mem_of_getElem? hv)
          rcases hvt with ⟨q1, q2, q3⟩ | ⟨q1, q2, q3⟩
          · rw [if_pos q1]; exact num_th q2
          · rw [if_neg (by omega)]; exact str_th q3
        · cases h
      · cases st with
        | nil => simp only at h; cases h
        | cons x st1 =>
          simp only at h
          have hs1 : ∀ y ∈ st1, thB y := fun y hy => hst y (by simp [hy])
          split at h
          · rename_i e
            split at h
            · cases h
            · split at h
              · cases h
              · rename_i hz
                injection h with h; subst h
                exact ⟨cons_th _ _ (sure_th hz (neg_I64 _)) hs1, by rw [e]; simp [takesI]⟩
          · split at h
            · rename_i e
              split at h
              · cases h
              · injection h with h; subst h
                exact ⟨cons_th _ _ (truth_th _) hs1, by rw [e]; simp [takesI]⟩
            · split at h
              · rename_i e
                split at h
                · cases h
                · rename_i t ht
                  injection h with h; subst h
                  have := thB_str (hst x (by simp)) ht
                  exact ⟨cons_th _ _ (num_th (by unfold I64; omega)) hs1, by rw [e]; simp [takesI]⟩
              · cases st1 with
                | nil => simp only at h; cases h
                | cons a st2 =>
                  simp only at h
                  split at h
                  · cases h
                  · rename_i z hz
                    injection h with h; subst h
                    refine ⟨cons_th _ _ (pair_th hz) (fun y hy => hs1 y (by simp [hy])), ?_⟩
                    have : takesI o.c = 2 := by unfold takesI; rw [if_neg (by omega), if_neg (by omega), if_pos (by omega)]
                    rw [this]
                    simp only [List.length_cons]
                    omega

/-- The two answers of Eval, as they stand in memory. -/
structure Res2 (W : World) (n : Nat) (v : Wd) (e : Int) : Prop where
  h4 : W.heap[n]? = some (.cells #[.int .i64 v.c, .int .i64 v.n, .string ⟨⟨v.t⟩⟩] 52 (0, 0))
  h5 : W.heap[n + 1]? = some (.cells #[.int .i64 e] 27 (0, 0))
theorem Res2.new (w : World) (v : Wd) (e : Int) : Res2 ((w.alloc (.cells #[.int .i64 v.c, .int .i64 v.n, .string ⟨⟨v.t⟩⟩] 52)).alloc (.cells #[.int .i64 e] 27)) w.heap.size v e := by
  have a := heap_alloc_new w (.cells #[.int .i64 v.c, .int .i64 v.n, .string ⟨⟨v.t⟩⟩] 52)
  have b := heap_alloc_new (w.alloc (.cells #[.int .i64 v.c, .int .i64 v.n, .string ⟨⟨v.t⟩⟩] 52)) (.cells #[.int .i64 e] 27)
  rw [World.size_alloc] at b
  exact ⟨Kept.heap ((Kept.refl (fun _ => False) _).alloc _) a (fun q => q), b⟩
theorem Res2.keep {W W' : World} {n : Nat} {v : Wd} {e : Int} {X : Nat → Prop} (h : Res2 W n v e) (k : Kept X W W') (hX : ∀ j, X j → n + 1 < j) : Res2 W' n v e :=
  ⟨k.heap h.h4 (fun q => by have := hX _ q; omega), k.heap h.h5 (fun q => by have := hX _ q; omega)⟩
theorem Res2.cells {W : World} {n : Nat} {v : Wd} {e : Int} (h : Res2 W n v e) : W.cell? ⟨n, 0, none⟩ = some (.int .i64 v.c) ∧ W.cell? ⟨n, 1, none⟩ = some (.int .i64 v.n) ∧ W.cell? ⟨n, 2, none⟩ = some (.string ⟨⟨v.t⟩⟩) ∧ W.cell? ⟨n + 1, 0, none⟩ = some (.int .i64 e) ∧
    W.frozen? ⟨n, 0, none⟩ = false ∧ W.frozen? ⟨n, 1, none⟩ = false ∧ W.frozen? ⟨n, 2, none⟩ = false ∧ W.frozen? ⟨n + 1, 0, none⟩ = false := by
  refine ⟨?_, ?_, ?_, ?_, frozen_of h.h4 0, frozen_of h.h4 1, frozen_of h.h4 2, frozen_of h.h5 0⟩
  · rw [cell_of_row W n 0 _ _ _ h.h4]; rfl
  · rw [cell_of_row W n 1 _ _ _ h.h4]; rfl
  · rw [cell_of_row W n 2 _ _ _ h.h4]; rfl
  · rw [cell_of_row W (n + 1) 0 _ _ _ h.h5]; rfl
theorem Res2.set {W : World} {n : Nat} {v : Wd} {e : Int} (h : Res2 W n v e) (v' : Wd) (e' : Int) :
    Res2 ((((W.setCell ⟨n, 0, none⟩ (.int .i64 v'.c)).setCell ⟨n, 1, none⟩ (.int .i64 v'.n)).setCell ⟨n, 2, none⟩ (.string ⟨⟨v'.t⟩⟩)).setCell ⟨n + 1, 0, none⟩ (.int .i64 e')) n v' e' ∧
    Kept (fun j => j = n ∨ j = n + 1) W ((((W.setCell ⟨n, 0, none⟩ (.int .i64 v'.c)).setCell ⟨n, 1, none⟩ (.int .i64 v'.n)).setCell ⟨n, 2, none⟩ (.string ⟨⟨v'.t⟩⟩)).setCell ⟨n + 1, 0, none⟩ (.int .i64 e')) := by
  refine ⟨⟨?_, ?_⟩, (((((Kept.refl (fun j => j = n ∨ j = n + 1) W).setCell (p := ⟨n, 0, none⟩) (fun _ => .inl rfl) _).setCell (p := ⟨n, 1, none⟩) (fun _ => .inl rfl) _).setCell (p := ⟨n, 2, none⟩) (fun _ => .inl rfl) _).setCell (p := ⟨n + 1, 0, none⟩) (fun _ => .inr rfl) _)⟩
  · exact blk_set_other (blk_set (blk_set (blk_set h.h4 0 _) 1 _) 2 _) (p := ⟨n + 1, 0, none⟩) (by simp) _
  · exact blk_set (blk_set_other (blk_set_other (blk_set_other h.h5 (p := ⟨n, 0, none⟩) (by simp) _) (p := ⟨n, 1, none⟩) (by simp) _) (p := ⟨n, 2, none⟩) (by simp) _) 0 _
theorem Kept.high2 {a b c : World} {n : Nat} (h : Kept (fun _ => False) a b) (k : Kept (fun j => j = n ∨ j = n + 1) b c) (hn : a.heap.size ≤ n) : Kept (fun _ => False) a c :=
  h.trans' k (fun _ _ q => q) (fun j hj q => by omega)

theorem eta_fault (v : Value) (w : World) : (Instr.typeAssert (.iface 111 v) 20 111 true).run Tryz.prog w = .ok (.tuple #[v, .bool true]) w :=
  ta_yes (P := Tryz.prog) 111 20 _ Tryz.underlying111 (fun l q => by cases q) true w
def mendedE (why : Int) : List PanicEntry := [{ v := .iface 111 (.agg #[.int .i64 why]), recovered := true }]

set_option maxHeartbeats 2000000 in
set_option maxRecDepth 100000 in
theorem ecatch_p (why : Int) (n : Nat) (v0 : Wd) (e0 : Int) (w : World) (h : Res2 w n v0 e0) :
    CallsD Tryz.prog 47 #[.pointer (some ⟨n, 0, none⟩), .pointer (some ⟨n + 1, 0, none⟩)] (.panicking (faultE why)) w fun e u' w' =>
      e = .returned (.tuple #[]) ∧ u' = .panicking (mendedE why) ∧ Res2 w' n ⟨0, 0, []⟩ why ∧ Kept (fun j => j = n ∨ j = n + 1) w w' := by
  refine callsD_of_wpS Tryz.func47 rfl fun c₀ cs hu => ?_
  unfold faultE at hu
  simp only [Tryz.ntmps47, List.size_toArray, List.length_cons, List.length_nil, Nat.reduceAdd, Nat.reduceSub, Array.replicate_succ, Array.replicate_zero, List.push_toArray, List.append_toArray, List.nil_append, List.cons_append]
  apply wpS_seq
  apply wpS_region
  simp [wpOpsS, go_sem, recoverD, hu, Exit.thenS]
  refine wpS_of_wp ?_
  have hta := eta_fault
  generalize hQ : bodyPostS Tryz.prog Tryz.f47 c₀ cs _ = QQ
  go_wp2_with fail
  have kW := (Kept.refl (fun _ => False) w).alloc (.cells #[.int .i64 why] 111)
  have hbx := heap_alloc_new w (.cells #[.int .i64 why] 111)
  have hl5 := (Array.getElem?_eq_some_iff.1 h.h5).1
  have hV := h.keep kW (fun _ q => q.elim)
  obtain ⟨m, hm⟩ : ∃ m, w.heap.size = m := ⟨_, rfl⟩
  rw [hm] at hbx hl5 ⊢
  obtain ⟨V, hVV⟩ : ∃ V, w.alloc (.cells #[.int .i64 why] 111) = V := ⟨_, rfl⟩
  rw [hVV] at hbx hV kW ⊢
  obtain ⟨c0, c1, c2, c3, f0, f1, f2, f3⟩ := hV.cells
  have cx := cell_of_row V m 0 _ _ _ hbx
  simp only [List.getElem?_toArray, List.getElem?_cons_zero] at cx
  have n4 : ¬ n = m := by omega
  have n5 : ¬ n + 1 = m := by omega
  have m4 : ¬ m = n := by omega
  have m5 : ¬ m = n + 1 := by omega
  obtain ⟨hs, ks⟩ := hV.set ⟨0, 0, []⟩ why
  have kf : Kept (fun j => j = n ∨ j = n + 1) w _ := (kW.mono (fun _ _ q => q.elim)).trans ks
  have HS := Lib.hid hs
  have KF := Lib.hid kf
  clear hVV hm hs ks kf
  go_region
  all_goals
    show QQ _ _ _ _
    rw [← hQ]
    refine ⟨rfl, _, rfl, .tuple #[], by simp [results, Tryz.results47], rfl, rfl, HS.out.keep ((Kept.refl (fun _ => False) _).drew) (fun _ q => q.elim), KF.out.drew⟩

set_option maxHeartbeats 2000000 in
set_option maxRecDepth 100000 in
theorem ecatch_idle (n : Nat) (w : World) :
    CallsD Tryz.prog 47 #[.pointer (some ⟨n, 0, none⟩), .pointer (some ⟨n + 1, 0, none⟩)] .returning w fun e u' w' => e = .returned (.tuple #[]) ∧ u' = .returning ∧ w' = w := by
  refine callsD_of_wpS Tryz.func47 rfl fun c₀ cs hu => ?_
  simp only [Tryz.ntmps47, List.size_toArray, List.length_cons, List.length_nil, Nat.reduceAdd, Nat.reduceSub, Array.replicate_succ, Array.replicate_zero, List.push_toArray, List.append_toArray, List.nil_append, List.cons_append]
  apply wpS_seq
  apply wpS_region
  simp [wpOpsS, go_sem, recoverD, hu, Exit.thenS]
  refine wpS_of_wp ?_
  generalize hQ : bodyPostS Tryz.prog Tryz.f47 c₀ cs _ = QQ
  go_wp2_with fail
  show QQ _ _ _ _
  rw [← hQ]
  refine ⟨rfl, .returning, by cases c₀; simp_all, .tuple #[], by simp [results, Tryz.results47], rfl, rfl, rfl⟩
end Go.Proofs.YtballmombklalaaGreat

/- eval: Eval, Holds. -/
namespace Go.Proofs.YtballmombklalaaGreat
open Go.RowKit

theorem hi_cons {o : Wd} {x : List Wd} {h r : Int} (q : hiF (o :: x) h = some r) : wdB o = true ∧ takesI o.c ≤ h ∧ hiF x (h + (1 - takesI o.c)) = some r := by
  rw [hiF] at q
  split at q
  · rename_i hc
    exact ⟨hc.1, hc.2, q⟩
  · cases q
theorem row_th {r : List Wd} (h : rowB r = true) (hn : ∀ v ∈ r, I64 v.n) : r.length ≤ 8 ∧ ∀ v ∈ r, thB v := by
  unfold rowB at h
  simp only [Bool.and_eq_true, decide_eq_true_eq, List.all_eq_true] at h
  refine ⟨h.1, fun v hv => ?_⟩
  have := h.2 v hv
  unfold valB at this
  simp only [decide_eq_true_eq] at this
  rcases this with ⟨q1, q2⟩ | ⟨q1, q2, q3⟩
  · exact .inl ⟨q1, hn v hv, q2⟩
  · exact .inr ⟨q1, q2, q3⟩

set_option maxHeartbeats 4000000 in
set_option maxRecDepth 100000 in
theorem eval_any (L r : List Wd) (A B : Option Addr) (c d : Nat) (w : World) (h : Src encW 3 w (fun _ => False) A L) (hr : Src encW 3 w (fun _ => False) B r) (hl : L.length ≤ 1048576) (hrl : r.length ≤ 1048576) (hn : ∀ o ∈ L, I64 o.n) (hnr : ∀ v ∈ r, I64 v.n) :
    Calls Tryz.prog 17 #[.slice A L.length c, .slice B r.length d] w fun e w' => e = .returned (.tuple #[aggW (evalS L r).1, .int .i64 (evalS L r).2]) ∧ Kept (fun _ => False) w w' := by
  obtain ⟨R, hR⟩ : ∃ R, evalS L r = R := ⟨_, rfl⟩
  rw [hR]
  have hform := fun wx hx => form_any L A c wx hx (by unfold maxLen; omega)
  have hrow := fun wx hx => rowMay_any r B d wx hx (by unfold maxLen; omega)
  have hmf : ∀ (fn : Fn) (first cap : Array Value) (w : World), (Instr.makeFunc fn first cap).run Tryz.prog w = .ok (.func fn first cap) w := fun _ _ _ _ => rfl
  have k0 := ((Kept.refl (fun _ => False) w).alloc (.cells #[.int .i64 0, .int .i64 0, .string ⟨⟨[]⟩⟩] 52)).alloc (.cells #[.int .i64 0] 27)
  have r0 := Res2.new w ⟨0, 0, []⟩ 0
  unfold evalS at hR
  by_cases g1 : formI L = 0
  · rw [if_pos g1] at hR
    have hfa := form_all g1
    rw [g1] at hform
    cases g2 : rowB r with
    | false =>
      rw [g2, if_neg (by simp)] at hR
      subst hR
      rw [g2] at hrow
      clear g1 g2 hfa
      go_enter_defers Tryz.func17, Tryz.ntmps17
      go_wp2_with fail
      refine (hform _ (h.same k0)).mono ?_
      rintro e w1 ⟨rfl, k1⟩
      go_wp2_with fail
      refine (hrow _ (hr.same (k0.trans k1))).mono ?_
      rintro e w2 ⟨rfl, k2⟩
      have r2 := r0.keep (k1.trans k2) (fun _ q => q.elim)
      obtain ⟨c0, c1, c2, c3, f0, f1, f2, f3⟩ := r2.cells
      obtain ⟨r3, k3⟩ := r2.set ⟨0, 0, []⟩ 2
      obtain ⟨z0, z1, z2, z3, _, _, _, _⟩ := r3.cells
      have KF := Lib.hid (((k0.trans k1).trans k2).high2 k3 (Nat.le_refl _))
      have Z0 := Lib.hid z0
      have Z1 := Lib.hid z1
      have Z2 := Lib.hid z2
      have Z3 := Lib.hid z3
      clear z0 z1 z2 z3 r3 k3
      go_wp2_with fail
      have z0 := Z0.out
      have z1 := Z1.out
      have z2 := Z2.out
      have z3 := Z3.out
      refine ⟨.tuple #[aggW ⟨0, 0, []⟩, .int .i64 2], ?_, rfl, KF.out⟩
      simp [results, Tryz.results17, go_sem, aggW, z0, z1, z2, z3]
    | true =>
      rw [g2, if_pos rfl] at hR
      rw [g2] at hrow
      obtain ⟨hr8, hrt⟩ := row_th g2 hnr
      obtain ⟨h64, hhi, _⟩ := hfa
      have HR := Lib.hid hR
      clear hR g1 g2
      go_enter_defers Tryz.func17, Tryz.ntmps17
      go_wp2_with fail
      refine (hform _ (h.same k0)).mono ?_
      rintro e w1 ⟨rfl, k1⟩
      go_wp2_with fail
      refine (hrow _ (hr.same (k0.trans k1))).mono ?_
      rintro e w2 ⟨rfl, k2⟩
      have r2 := r0.keep (k1.trans k2) (fun _ q => q.elim)
      have kw2 := (k0.trans k1).trans k2
      have hsk0 : SK (w2.alloc (.cells #[.slice none 0 0] 116)) w2.heap.size [] := ⟨_, heap_alloc_new w2 _, Row.ofNil _, (fun j hj => by cases hj), by simp⟩
      have kp : Kept (fun j => w2.heap.size ≤ j) w2 (w2.alloc (.cells #[.slice none 0 0] 116)) := (Kept.refl _ w2).alloc _
      have hw01 : w.heap.size + 1 < w2.heap.size := (Array.getElem?_eq_some_iff.1 r2.h5).1
      have hsL : Src encW 3 w2 (fun j => w2.heap.size ≤ j) A L := h.fresh encW_len (by decide) kw2 (fun j q => Nat.le_trans kw2.size q)
      have hsR : Src encW 3 w2 (fun j => w2.heap.size ≤ j) B r := hr.fresh encW_len (by decide) kw2 (fun j q => Nat.le_trans kw2.size q)
      have hkf : ∀ {W : World}, Kept (fun j => w2.heap.size ≤ j) w2 W → Kept (fun _ => False) w W := fun k => kw2.trans' k (fun _ _ q => q) (fun i hi q => by have := kw2.size; omega)
      go_wp2_with fail
      generalize hWW : w2.alloc (.cells #[.slice none 0 0] 116) = WW at *
      generalize hpp : w2.heap.size = p at *
      generalize hnn : w.heap.size = n0 at *
      have HPP := Lib.hid hpp
      have HNN := Lib.hid hnn
      clear hWW hpp hnn k1 k2 r0 k0 hform hrow h hr
      go_loopg [25] L.length (fun k iv wr => ∃ (n : Nat) (st : List Wd), n + k = L.length ∧ iv = .int .i64 n ∧ SK wr p st ∧ (∀ x ∈ st, thB x) ∧ Hid (hiF (L.drop n) st.length = some 1) ∧ Hid ((match runE r (L.drop n) st with
        | .error y => (⟨0, 0, []⟩, y)
        | .ok st => (st.headD ⟨0, 0, []⟩, 0)) = R) ∧ st.length ≤ n ∧ Kept (fun j => p ≤ j) w2 wr)
      case atStart => exact ⟨0, [], by omega, rfl, hsk0, by simp, hhi, HR, by simp, kp⟩
      case round =>
        obtain ⟨n, st, hk, rfl, hsk, hst, HH, HRR, hsn, hkr⟩ := hrel
        clear hsk0 kp HR
        by_cases hlt : n < L.length
        · obtain ⟨o, ho⟩ : ∃ o, L[n]? = some o := ⟨_, List.getElem?_eq_getElem hlt⟩
          have hdr : L.drop n = o :: L.drop (n + 1) := by
            rw [List.drop_eq_getElem_cons hlt]; congr 1; rw [List.getElem?_eq_getElem hlt] at ho; injection ho
          have hh := HH.out
          have hrr := HRR.out
          rw [hdr] at hh hrr
          obtain ⟨hwb, htk, hh2⟩ := hi_cons hh
          rw [runE] at hrr
          obtain ⟨b1, o1, rfl, hb1, x0, x1, x2⟩ := (hsL.kept hkr (fun _ q => q) (fun _ q => q)).cells3 ho
          have hno := hn o (List.mem_of_getElem? ho)
          have hlt' : decide ((n : Int) < (L.length : Int)) = true := by simp; omega
          have hws := word_s p st r o B d (wr.alloc (.cells #[.int .i64 o.c, .int .i64 o.n, .string ⟨⟨o.t⟩⟩] 62)) (hsk.same ((Kept.refl (fun _ => False) wr).alloc _) (fun _ _ q => q)) hst (by omega) hwb htk ((hsR.kept hkr (fun _ q => q) (fun _ q => q.elim)).same ((Kept.refl (fun _ => False) wr).alloc _)) hr8
          have hth := fun st' (q : wordE r o st = .ok st') => word_th hrt hst hwb hno q
          have hk1 := hkr.alloc (.cells #[.int .i64 o.c, .int .i64 o.n, .string ⟨⟨o.t⟩⟩] 62)
          generalize wordE r o st = RW at *
          have HRR2 := Lib.hid hrr
          have HH2 := Lib.hid hh2
          have HT0 : Hid (0 ≤ takesI o.c) := wd_takes hwb
          obtain ⟨oc, on, ot⟩ := o
          unfold aggW at hws
          simp only at x0 x1 x2 hws hk1 hth HH2 htk
          clear HH HRR hdr hh hrr hh2 ho hwb
          cases RW with
          | error y =>
            simp only at HRR2
            have r5 : ∀ {W : World}, Kept (fun j => p ≤ j) w2 W → Res2 W n0 ⟨0, 0, []⟩ 0 := fun k => r2.keep k (fun j q => by omega)
            clear hth
            go_wp2_with fail
            refine hws.mono ?_
            rintro e w5 ⟨rfl, k5⟩
            have kk := hk1.trans k5
            refine leaves_cons (f := 47) (args := #[.pointer (some ⟨n0, 0, none⟩), .pointer (some ⟨n0 + 1, 0, none⟩)]) (by simp) (by simp [go_sem, enters_of Tryz.func47 (by kernel_rfl) rfl]) ?_
            refine (ecatch_p y n0 _ _ _ (r5 kk)).mono ?_
            rintro e u' w9 ⟨rfl, rfl, r9, kf⟩
            obtain ⟨z0, z1, z2, z3, _, _, _, _⟩ := r9.cells
            have KF := (hkf kk).trans' kf (fun _ _ q => q) (fun j hj q => by have := HNN.out; omega)
            refine ⟨.tuple #[aggW ⟨0, 0, []⟩, .int .i64 y], ?_, ?_, KF⟩
            · simp [results, Tryz.results17, go_sem, aggW, z0, z1, z2, z3]
            · rw [← HRR2.out]
          | ok st' =>
            obtain ⟨ht1, ht2⟩ := hth st' rfl
            simp only at HRR2
            clear hth
            go_wp2_with fail
            refine hws.mono ?_
            rintro e w5 ⟨rfl, hsk5, k5⟩
            have kk := hk1.trans k5
            go_wp2_with fail
            go_roundg (gk - 1)
            case measure => omega
            case rel => exact ⟨n + 1, st', by omega, int_eq (by omega), hsk5, ht1, by have := HH2.out; unfold Hid; rw [ht2]; exact this, HRR2, by have := HT0.out; omega, kk⟩
        · have e : n = L.length := by omega
          have hh := HH.out
          have hrr := HRR.out
          rw [e, List.drop_length] at hh hrr
          rw [hiF] at hh
          injection hh with hh
          rw [runE] at hrr
          obtain ⟨v, rfl⟩ : ∃ v, st = [v] := List.length_eq_one_iff.1 (by omega)
          simp only [List.headD_cons] at hrr
          have HRV := Lib.hid hrr
          have hvb := hst v (by simp)
          have hmn : ∀ (n : Int) (W : World), (method 344 156 (.int .i64 n) "rescind/eval.value").run Tryz.prog W = .ok (178, .int .i64 n) W := fun _ _ => by kernel_rfl
          have hmw : ∀ (s : ByteArray) (W : World), (method 344 157 (.string s) "rescind/eval.value").run Tryz.prog W = .ok (179, .string s) W := fun _ _ => by kernel_rfl
          have hpo := pop_any p [] v wr hsk
          have hlt' : decide ((n : Int) < (L.length : Int)) = false := by simp; omega
          have r5 : ∀ {W : World}, Kept (fun j => p ≤ j) w2 W → Res2 W n0 ⟨0, 0, []⟩ 0 := fun k => r2.keep k (fun j q => by omega)
          clear hh hrr e hst HH HRR hrt hn hnr
          rcases thB_cases hvb with ⟨vn, rfl, _⟩ | ⟨vt, rfl, _⟩
          · rw [thE_num] at hpo
            have hvv := fun wx => enum_any vn wx
            simp only [aggW, numW] at hvv
            simp only [numW] at HRV
            clear hmw hvb hsk
            go_wp2_with fail
            refine hpo.mono ?_
            rintro e w5 ⟨rfl, _, k5⟩
            go_wp2_with fail
            refine (hvv _).mono ?_
            rintro e w6 ⟨rfl, k6⟩
            have kk := (hkr.trans (k5.mono (fun _ _ q => Nat.le_of_eq q.symm))).trans (k6.mono (T := fun j => p ≤ j) (fun _ _ q => q.elim))
            have r6 := r5 kk
            obtain ⟨c0, c1, c2, c3, f0, f1, f2, f3⟩ := r6.cells
            obtain ⟨r7, k7⟩ := r6.set ⟨1, vn, []⟩ 0
            obtain ⟨z0, z1, z2, z3, _, _, _, _⟩ := r7.cells
            have KF := Lib.hid ((hkf kk).trans' k7 (fun _ _ q => q) (fun j hj q => by have := HNN.out; omega))
            have Z0 := Lib.hid z0
            have Z1 := Lib.hid z1
            have Z2 := Lib.hid z2
            have Z3 := Lib.hid z3
            clear z0 z1 z2 z3 r7 k7
            go_wp2_with fail
            refine leaves_cons (f := 47) (args := #[.pointer (some ⟨n0, 0, none⟩), .pointer (some ⟨n0 + 1, 0, none⟩)]) (by simp) (by simp [go_sem, enters_of Tryz.func47 (by kernel_rfl) rfl]) ?_
            refine (ecatch_idle n0 _).mono ?_
            rintro e u' w9 ⟨rfl, rfl, rfl⟩
            have z0 := Z0.out
            have z1 := Z1.out
            have z2 := Z2.out
            have z3 := Z3.out
            refine ⟨.tuple #[aggW ⟨1, vn, []⟩, .int .i64 0], ?_, ?_, KF.out⟩
            · simp [results, Tryz.results17, go_sem, aggW, z0, z1, z2, z3]
            · rw [← HRV.out]
          · rw [thE_str] at hpo
            have hvv := fun wx => ewords_any vt wx
            simp only [aggW, strW] at hvv
            simp only [strW] at HRV
            clear hmn hvb hsk
            go_wp2_with fail
            refine hpo.mono ?_
            rintro e w5 ⟨rfl, _, k5⟩
            go_wp2_with fail
            refine (hvv _).mono ?_
            rintro e w6 ⟨rfl, k6⟩
            have kk := (hkr.trans (k5.mono (fun _ _ q => Nat.le_of_eq q.symm))).trans (k6.mono (T := fun j => p ≤ j) (fun _ _ q => q.elim))
            have r6 := r5 kk
            obtain ⟨c0, c1, c2, c3, f0, f1, f2, f3⟩ := r6.cells
            obtain ⟨r7, k7⟩ := r6.set ⟨2, 0, vt⟩ 0
            obtain ⟨z0, z1, z2, z3, _, _, _, _⟩ := r7.cells
            have KF := Lib.hid ((hkf kk).trans' k7 (fun _ _ q => q) (fun j hj q => by have := HNN.out; omega))
            have Z0 := Lib.hid z0
            have Z1 := Lib.hid z1
            have Z2 := Lib.hid z2
            have Z3 := Lib.hid z3
            clear z0 z1 z2 z3 r7 k7
            go_wp2_with fail
            refine leaves_cons (f := 47) (args := #[.pointer (some ⟨n0, 0, none⟩), .pointer (some ⟨n0 + 1, 0, none⟩)]) (by simp) (by simp [go_sem, enters_of Tryz.func47 (by kernel_rfl) rfl]) ?_
            refine (ecatch_idle n0 _).mono ?_
            rintro e u' w9 ⟨rfl, rfl, rfl⟩
            have z0 := Z0.out
            have z1 := Z1.out
            have z2 := Z2.out
            have z3 := Z3.out
            refine ⟨.tuple #[aggW ⟨2, 0, vt⟩, .int .i64 0], ?_, ?_, KF.out⟩
            · simp [results, Tryz.results17, go_sem, aggW, z0, z1, z2, z3]
            · rw [← HRV.out]
  · rw [if_neg g1] at hR
    subst hR
    have g1' : (formI L == 0) = false := by simpa using g1
    generalize formI L = fx at *
    clear hrow g1
    go_enter_defers Tryz.func17, Tryz.ntmps17
    go_wp2_with fail
    refine (hform _ (h.same k0)).mono ?_
    rintro e w1 ⟨rfl, k1⟩
    have r2 := r0.keep k1 (fun _ q => q.elim)
    obtain ⟨c0, c1, c2, c3, f0, f1, f2, f3⟩ := r2.cells
    obtain ⟨r3, k3⟩ := r2.set ⟨0, 0, []⟩ fx
    obtain ⟨z0, z1, z2, z3, _, _, _, _⟩ := r3.cells
    have KF := Lib.hid ((k0.trans k1).high2 k3 (Nat.le_refl _))
    have Z0 := Lib.hid z0
    have Z1 := Lib.hid z1
    have Z2 := Lib.hid z2
    have Z3 := Lib.hid z3
    clear z0 z1 z2 z3 r3 k3
    go_wp2_with fail
    have z0 := Z0.out
    have z1 := Z1.out
    have z2 := Z2.out
    have z3 := Z3.out
    refine ⟨.tuple #[aggW ⟨0, 0, []⟩, .int .i64 fx], ?_, rfl, KF.out⟩
    simp [results, Tryz.results17, go_sem, aggW, z0, z1, z2, z3]

/-- Does an expression hold over a row? -/
def holdsS (x r : List Wd) : Bool × Int := if (evalS x r).2 = 0 then (if (evalS x r).1.c = 1 then ((evalS x r).1.n != 0, 0) else (false, 12)) else (false, (evalS x r).2)

set_option maxRecDepth 100000 in
theorem holds_any (L r : List Wd) (A B : Option Addr) (c d : Nat) (w : World) (h : Src encW 3 w (fun _ => False) A L) (hr : Src encW 3 w (fun _ => False) B r) (hl : L.length ≤ 1048576) (hrl : r.length ≤ 1048576) (hn : ∀ o ∈ L, I64 o.n) (hnr : ∀ v ∈ r, I64 v.n) :
    Calls Tryz.prog 30 #[.slice A L.length c, .slice B r.length d] w fun e w' => e = .returned (.tuple #[.bool (holdsS L r).1, .int .i64 (holdsS L r).2]) ∧ Kept (fun _ => False) w w' := by
  have hev := eval_any L r A B c d w h hr hl hrl hn hnr
  unfold holdsS
  generalize evalS L r = q at *
  obtain ⟨⟨vc, vn, vt⟩, e⟩ := q
  unfold aggW at hev
  simp only at hev ⊢
  by_cases g1 : e = 0
  · rw [if_pos g1]
    have g1' : (e != 0) = false := by simpa using g1
    by_cases g2 : vc = 1
    · rw [if_pos g2]
      have g2' : (vc != 1) = false := by simpa using g2
      clear g1 g2
      go_enter Tryz.func30, Tryz.ntmps30
      go_wp2_with fail
      refine hev.mono ?_
      rintro e w1 ⟨rfl, k1⟩
      go_wp2_with fail
      go_ret2
      exact ⟨rfl, k1.alloc _⟩
    · rw [if_neg g2]
      have g2' : (vc != 1) = true := by simpa using g2
      clear g1 g2
      go_enter Tryz.func30, Tryz.ntmps30
      go_wp2_with fail
      refine hev.mono ?_
      rintro e w1 ⟨rfl, k1⟩
      go_wp2_with fail
      go_ret2
      exact ⟨rfl, k1.alloc _⟩
  · rw [if_neg g1]
    have g1' : (e != 0) = true := by simpa using g1
    clear g1
    go_enter Tryz.func30, Tryz.ntmps30
    go_wp2_with fail
    refine hev.mono ?_
    rintro e w1 ⟨rfl, k1⟩
    go_wp2_with fail
    go_ret2
    exact ⟨rfl, k1.alloc _⟩
end Go.Proofs.YtballmombklalaaGreat
