/- parse: the recovery of Begin. -/
import Derived.Test.YtballmombklalaaGreatM19
import Derived.Defers
import Derived.Recover
namespace Go.Proofs.YtballmombklalaaGreat
open Go.RowKit

theorem ta_fault (v : Value) (w : World) : (Instr.typeAssert (.iface 102 v) 20 102 true).run Tryz.prog w = .ok (.tuple #[v, .bool true]) w :=
  ta_yes (P := Tryz.prog) 102 20 _ Tryz.underlying102 (fun l q => by cases q) true w

/-- A mended throw. -/
def mended (why : Int) : List PanicEntry := [{ v := .iface 102 (.agg #[.int .i64 why]), recovered := true }]

set_option maxHeartbeats 2000000 in
set_option maxRecDepth 100000 in
theorem catch_p (why : Int) (b4 b5 b6 : Nat) (x4 x5 x6 : Value) (w : World) (h4 : w.heap[b4]? = some (.cells #[x4] 26 (0, 0))) (h5 : w.heap[b5]? = some (.cells #[x5] 3 (0, 0))) (h6 : w.heap[b6]? = some (.cells #[x6] 27 (0, 0)))
    (n45 : b4 ≠ b5) (n46 : b4 ≠ b6) (n56 : b5 ≠ b6) :
    CallsD Tryz.prog 43 #[.pointer (some ⟨b4, 0, none⟩), .pointer (some ⟨b5, 0, none⟩), .pointer (some ⟨b6, 0, none⟩)] (.panicking (faultC why)) w fun e u' w' =>
      e = .returned (.tuple #[]) ∧ u' = .panicking (mended why) ∧ w'.heap[b4]? = some (.cells #[.slice none 0 0] 26 (0, 0)) ∧ w'.heap[b5]? = some (.cells #[.int .i64 0] 3 (0, 0)) ∧ w'.heap[b6]? = some (.cells #[.int .i64 why] 27 (0, 0)) ∧
      Kept (fun j => j = b4 ∨ j = b5 ∨ j = b6) w w' := by
  refine callsD_of_wpS Tryz.func43 rfl fun c₀ cs hu => ?_
  unfold faultC at hu
  simp only [Tryz.ntmps43, List.size_toArray, List.length_cons, List.length_nil, Nat.reduceAdd, Nat.reduceSub, Array.replicate_succ, Array.replicate_zero, List.push_toArray, List.append_toArray, List.nil_append, List.cons_append]
  apply wpS_seq
  apply wpS_region
  simp [wpOpsS, go_sem, recoverD, hu, Exit.thenS]
  refine wpS_of_wp ?_
  have hta := ta_fault
  generalize hQ : bodyPostS Tryz.prog Tryz.f43 c₀ cs _ = QQ
  go_wp2_with fail
  have kW := (Kept.refl (fun _ => False) w).alloc (.cells #[.int .i64 why] 102)
  have hbx := heap_alloc_new w (.cells #[.int .i64 why] 102)
  have h4' := kW.heap h4 (fun q => q)
  have h5' := kW.heap h5 (fun q => q)
  have h6' := kW.heap h6 (fun q => q)
  have l4 := (Array.getElem?_eq_some_iff.1 h4).1
  have l5 := (Array.getElem?_eq_some_iff.1 h5).1
  have l6 := (Array.getElem?_eq_some_iff.1 h6).1
  obtain ⟨n, hn⟩ : ∃ n, w.heap.size = n := ⟨_, rfl⟩
  rw [hn] at hbx l4 l5 l6 ⊢
  obtain ⟨V, hV⟩ : ∃ V, w.alloc (.cells #[.int .i64 why] 102) = V := ⟨_, rfl⟩
  rw [hV] at hbx h4' h5' h6' kW ⊢
  have c4 := cell_of_row V b4 0 _ _ _ h4'
  have c5 := cell_of_row V b5 0 _ _ _ h5'
  have c6 := cell_of_row V b6 0 _ _ _ h6'
  have cx := cell_of_row V n 0 _ _ _ hbx
  simp only [List.getElem?_toArray, List.getElem?_cons_zero] at c4 c5 c6 cx
  have f4 := frozen_of h4' 0
  have f5 := frozen_of h5' 0
  have f6 := frozen_of h6' 0
  have n4 : ¬ b4 = n := by omega
  have n5 : ¬ b5 = n := by omega
  have n6 : ¬ b6 = n := by omega
  have m4 : ¬ n = b4 := by omega
  have m5 : ¬ n = b5 := by omega
  have m6 : ¬ n = b6 := by omega
  clear hV hn
  go_region
  all_goals
    have e4 := blk_set_other (blk_set_other (blk_set h4' 0 (.slice none 0 0)) (p := ⟨b5, 0, none⟩) (fun q => n45 q.symm) (.int .i64 0)) (p := ⟨b6, 0, none⟩) (fun q => n46 q.symm) (.int .i64 why)
    have e5 := blk_set_other (blk_set (blk_set_other h5' (p := ⟨b4, 0, none⟩) n45 (.slice none 0 0)) 0 (.int .i64 0)) (p := ⟨b6, 0, none⟩) (fun q => n56 q.symm) (.int .i64 why)
    have e6 := blk_set (blk_set_other (blk_set_other h6' (p := ⟨b4, 0, none⟩) n46 (.slice none 0 0)) (p := ⟨b5, 0, none⟩) n56 (.int .i64 0)) 0 (.int .i64 why)
    have kf : Kept (fun j => j = b4 ∨ j = b5 ∨ j = b6) w _ := ((((kW.mono (fun _ _ q => q.elim) : Kept (fun j => j = b4 ∨ j = b5 ∨ j = b6) w V).setCell (p := ⟨b4, 0, none⟩) (fun _ => .inl rfl) (.slice none 0 0)).setCell (p := ⟨b5, 0, none⟩) (fun _ => .inr (.inl rfl)) (.int .i64 0)).setCell (p := ⟨b6, 0, none⟩) (fun _ => .inr (.inr rfl)) (.int .i64 why)).drew
    show QQ _ _ _ _
    rw [← hQ]
    refine ⟨rfl, _, rfl, .tuple #[], by simp [results, Tryz.results43], rfl, rfl, e4, e5, e6, kf⟩

set_option maxHeartbeats 2000000 in
set_option maxRecDepth 100000 in
theorem catch_idle (b4 b5 b6 : Nat) (w : World) :
    CallsD Tryz.prog 43 #[.pointer (some ⟨b4, 0, none⟩), .pointer (some ⟨b5, 0, none⟩), .pointer (some ⟨b6, 0, none⟩)] .returning w fun e u' w' => e = .returned (.tuple #[]) ∧ u' = .returning ∧ w' = w := by
  refine callsD_of_wpS Tryz.func43 rfl fun c₀ cs hu => ?_
  simp only [Tryz.ntmps43, List.size_toArray, List.length_cons, List.length_nil, Nat.reduceAdd, Nat.reduceSub, Array.replicate_succ, Array.replicate_zero, List.push_toArray, List.append_toArray, List.nil_append, List.cons_append]
  apply wpS_seq
  apply wpS_region
  simp [wpOpsS, go_sem, recoverD, hu, Exit.thenS]
  refine wpS_of_wp ?_
  generalize hQ : bodyPostS Tryz.prog Tryz.f43 c₀ cs _ = QQ
  go_wp2_with fail
  show QQ _ _ _ _
  rw [← hQ]
  refine ⟨rfl, .returning, by cases c₀; simp_all, .tuple #[], by simp [results, Tryz.results43], rfl, rfl, rfl⟩
end Go.Proofs.YtballmombklalaaGreat

/- parse: Begin. -/
namespace Go.Proofs.YtballmombklalaaGreat
open Go.RowKit

theorem begin1_any (t : Tok) (w : World) (hl : t.t.length ≤ maxLen) : Calls Tryz.prog 41 #[aggT t] w fun e w' => e = .returned (.bool (!mayT t)) ∧ Kept (fun _ => False) w w' := by
  have ho := fun wx => may_any t wx hl
  obtain ⟨k, s⟩ := t
  unfold aggT at *
  generalize mayT ⟨k, s⟩ = vb at *
  go_enter Tryz.func41, Tryz.ntmps41
  go_wp2_with fail
  refine (ho _).mono ?_
  rintro e w' ⟨rfl, k⟩
  go_wp2_with fail
  go_ret
  exact ⟨rfl, ((Kept.refl _ w).alloc _).trans k⟩

/-- What Begin answers: words, how many tokens are read, and why not. -/
def begS (T : List Tok) (S : List Cl) : List Wd × Int × Int :=
  if schB S = false then ([], 0, 17)
  else if (T.any fun t => !mayT t) = true then ([], 0, 2)
  else match par S (needL 1 T.length) (.lv 1) T 0 with
    | .error k => ([], 0, k)
    | .ok q => if formI q.1 = 0 then (q.1, T.length - q.2.length, 0) else ([], 0, 6)

theorem may_quote {t : Tok} (h : mayT t = true) (hk : t.k = 3) : t.t[0]? = some 39 := by
  obtain ⟨k, s⟩ := t
  simp only at hk ⊢
  subst hk
  unfold mayT at h
  simp only [Bool.and_eq_true, decide_eq_true_eq] at h
  obtain ⟨h1, _, h3⟩ := h
  unfold firstS at h3
  split at h3
  · injection h3 with h4 _; simp at h4
  · split at h3
    · injection h3 with h4 _; simp at h4
    · split at h3
      · rename_i hq
        cases s with
        | nil => simp at h1
        | cons a b => simpa using hq
      · split at h3
        · injection h3 with h4 _; simp at h4
        · injection h3 with h4 _; simp at h4

/-- The three answers of Begin, as they stand in memory. -/
structure Res3 (W : World) (n : Nat) (x y z : Value) : Prop where
  h4 : W.heap[n]? = some (.cells #[x] 26 (0, 0))
  h5 : W.heap[n + 1]? = some (.cells #[y] 3 (0, 0))
  h6 : W.heap[n + 1 + 1]? = some (.cells #[z] 27 (0, 0))
theorem Res3.new (w : World) (x y z : Value) : Res3 (((w.alloc (.cells #[x] 26)).alloc (.cells #[y] 3)).alloc (.cells #[z] 27)) w.heap.size x y z := by
  have a := heap_alloc_new w (.cells #[x] 26)
  have b := heap_alloc_new (w.alloc (.cells #[x] 26)) (.cells #[y] 3)
  have c := heap_alloc_new ((w.alloc (.cells #[x] 26)).alloc (.cells #[y] 3)) (.cells #[z] 27)
  rw [World.size_alloc] at b
  rw [World.size_alloc, World.size_alloc] at c
  exact ⟨Kept.heap (((Kept.refl (fun _ => False) _).alloc _).alloc _) a (fun q => q), Kept.heap ((Kept.refl (fun _ => False) _).alloc _) b (fun q => q), c⟩
theorem Res3.keep {W W' : World} {n : Nat} {x y z : Value} {X : Nat → Prop} (h : Res3 W n x y z) (k : Kept X W W') (hX : ∀ j, X j → n + 1 + 1 < j) : Res3 W' n x y z :=
  ⟨k.heap h.h4 (fun q => by have := hX _ q; omega), k.heap h.h5 (fun q => by have := hX _ q; omega), k.heap h.h6 (fun q => by have := hX _ q; omega)⟩
theorem Res3.cells {W : World} {n : Nat} {x y z : Value} (h : Res3 W n x y z) : W.cell? ⟨n, 0, none⟩ = some x ∧ W.cell? ⟨n + 1, 0, none⟩ = some y ∧ W.cell? ⟨n + 1 + 1, 0, none⟩ = some z ∧ W.frozen? ⟨n, 0, none⟩ = false ∧ W.frozen? ⟨n + 1, 0, none⟩ = false ∧ W.frozen? ⟨n + 1 + 1, 0, none⟩ = false := by
  refine ⟨?_, ?_, ?_, frozen_of h.h4 0, frozen_of h.h5 0, frozen_of h.h6 0⟩
  · rw [cell_of_row W n 0 _ _ _ h.h4]; rfl
  · rw [cell_of_row W (n + 1) 0 _ _ _ h.h5]; rfl
  · rw [cell_of_row W (n + 1 + 1) 0 _ _ _ h.h6]; rfl
theorem Res3.one {W : World} {n : Nat} {x y z : Value} (h : Res3 W n x y z) (x' : Value) : Res3 (W.setCell ⟨n, 0, none⟩ x') n x' y z ∧ Kept (fun j => j = n) W (W.setCell ⟨n, 0, none⟩ x') :=
  ⟨⟨blk_set h.h4 0 x', blk_set_other h.h5 (p := ⟨n, 0, none⟩) (by simp) x', blk_set_other h.h6 (p := ⟨n, 0, none⟩) (by simp; omega) x'⟩, (Kept.refl (fun j => j = n) W).setCell (p := ⟨n, 0, none⟩) (fun _ => rfl) _⟩
theorem Res3.set {W : World} {n : Nat} {x y z : Value} (h : Res3 W n x y z) (x' y' z' : Value) :
    Res3 (((W.setCell ⟨n, 0, none⟩ x').setCell ⟨n + 1, 0, none⟩ y').setCell ⟨n + 1 + 1, 0, none⟩ z') n x' y' z' ∧ Kept (fun j => j = n ∨ j = n + 1 ∨ j = n + 1 + 1) W (((W.setCell ⟨n, 0, none⟩ x').setCell ⟨n + 1, 0, none⟩ y').setCell ⟨n + 1 + 1, 0, none⟩ z') := by
  obtain ⟨h1, k0⟩ := h.one x'
  have k1 : Kept (fun j => j = n ∨ j = n + 1 ∨ j = n + 1 + 1) W _ := k0.mono (fun _ _ q => .inl q)
  refine ⟨⟨?_, ?_, ?_⟩, (k1.setCell (p := ⟨n + 1, 0, none⟩) (fun _ => .inr (.inl rfl)) _).setCell (p := ⟨n + 1 + 1, 0, none⟩) (fun _ => .inr (.inr rfl)) _⟩
  · exact blk_set_other (blk_set_other h1.h4 (p := ⟨n + 1, 0, none⟩) (by simp) y') (p := ⟨n + 1 + 1, 0, none⟩) (by simp; omega) z'
  · exact blk_set_other (blk_set h1.h5 0 y') (p := ⟨n + 1 + 1, 0, none⟩) (by simp) z'
  · exact blk_set (blk_set_other h1.h6 (p := ⟨n + 1, 0, none⟩) (by simp) y') 0 z'
theorem New.nil {w W : World} (k : Kept (fun _ => False) w W) : New encW 3 62 w W (.slice none 0 0) [] := ⟨Row.ofNil _, (fun j hj => by cases hj), k⟩
theorem Kept.high {a b c : World} {n : Nat} (h : Kept (fun _ => False) a b) (k : Kept (fun j => j = n ∨ j = n + 1 ∨ j = n + 1 + 1) b c) (hn : a.heap.size ≤ n) : Kept (fun _ => False) a c :=
  h.trans' k (fun _ _ q => q) (fun j hj q => by omega)

set_option maxHeartbeats 4000000 in
set_option maxRecDepth 100000 in
theorem begin_any (T : List Tok) (S : List Cl) (A B : Option Addr) (c e0 : Nat) (w : World) (hT : Src encT 2 w (fun _ => False) A T) (hS : Src encC 2 w (fun _ => False) B S) (hl : T.length ≤ 1048576) (hsl : S.length ≤ maxLen) (htl : ∀ t ∈ T, t.t.length ≤ 1048576) :
    Calls Tryz.prog 15 #[.slice A T.length c, .slice B S.length e0] w fun e w' => ∃ v, e = .returned (.tuple #[v, .int .i64 (begS T S).2.1, .int .i64 (begS T S).2.2]) ∧ New encW 3 62 w w' v (begS T S).1 := by
  obtain ⟨R, hR⟩ : ∃ R, begS T S = R := ⟨_, rfl⟩
  rw [hR]
  have hsm := fun wx hx => smay_any S B e0 wx hsl hx
  have hmf : ∀ (fn : Fn) (first cap : Array Value) (w : World), (Instr.makeFunc fn first cap).run Tryz.prog w = .ok (.func fn first cap) w := fun _ _ _ _ => rfl
  unfold begS at hR
  cases g1 : schB S with
  | false =>
    rw [g1, if_pos rfl] at hR
    subst hR
    rw [g1] at hsm
    clear g1 htl
    go_enter_defers Tryz.func15, Tryz.ntmps15
    go_wp2_with fail
    refine (hsm _ (hS.same ((((Kept.refl _ w).alloc _).alloc _).alloc _))).mono ?_
    rintro e w1 ⟨rfl, k1⟩
    have r1 := (Res3.new w (.slice none 0 0) (.int .i64 0) (.int .i64 0)).keep k1 (fun _ q => q.elim)
    obtain ⟨y4, y5, y6, f4, f5, f6⟩ := r1.cells
    obtain ⟨r2, k2⟩ := r1.set (.slice none 0 0) (.int .i64 0) (.int .i64 17)
    obtain ⟨z4, z5, z6, _, _, _⟩ := r2.cells
    have KF := Lib.hid (((((Kept.refl (fun _ => False) w).alloc _).alloc _).alloc _).trans k1 |>.high k2 (Nat.le_refl _))
    have Z4 := Lib.hid z4
    have Z5 := Lib.hid z5
    have Z6 := Lib.hid z6
    clear z4 z5 z6 r2 k2
    go_wp2_with fail
    have z4 := Z4.out
    have z5 := Z5.out
    have z6 := Z6.out
    refine ⟨.tuple #[.slice none 0 0, .int .i64 0, .int .i64 17], ?_, .slice none 0 0, rfl, New.nil KF.out⟩
    simp [results, Tryz.results15, go_sem, z4, z5, z6]
  | true =>
    rw [g1, if_neg (by simp)] at hR
    rw [g1] at hsm
    have hany := findI_any (fun t => !mayT t) T 0
    have hct := fun wx (hk : Kept (fun _ => False) w wx) => contT_any T A c wx 41 #[] (fun _ t => !mayT t) (fun _ W => Kept (fun _ => False) wx W) (by unfold maxLen; omega) (enters_of Tryz.func41 (by kernel_rfl) rfl) (fun _ W k => hT.same (hk.trans k))
      (fun n x W k hx => (begin1_any x W (by have := htl x (List.mem_of_getElem? hx); unfold maxLen; omega)).mono (by rintro e W' ⟨rfl, k1⟩; exact ⟨rfl, Kept.trans k k1⟩)) (Kept.refl _ wx)
    rw [hany] at hct
    cases g2 : (T.any fun t => !mayT t) with
    | true =>
      rw [g2, if_pos rfl] at hR
      subst hR
      rw [g2] at hct
      clear g1 g2 htl hany
      go_enter_defers Tryz.func15, Tryz.ntmps15
      go_wp2_with fail
      refine (hsm _ (hS.same ((((Kept.refl _ w).alloc _).alloc _).alloc _))).mono ?_
      rintro e w1 ⟨rfl, k1⟩
      have r1 := (Res3.new w (.slice none 0 0) (.int .i64 0) (.int .i64 0)).keep k1 (fun _ q => q.elim)
      have kw1 := ((((Kept.refl (fun _ => False) w).alloc _).alloc _).alloc _).trans k1
      go_wp2_with fail
      refine (hct _ kw1).mono ?_
      rintro e w2 ⟨_, rfl, kw2⟩
      have r1' := r1.keep kw2 (fun _ q => q.elim)
      obtain ⟨y4, y5, y6, f4, f5, f6⟩ := r1'.cells
      obtain ⟨r2, k2⟩ := r1'.set (.slice none 0 0) (.int .i64 0) (.int .i64 2)
      obtain ⟨z4, z5, z6, _, _, _⟩ := r2.cells
      have KF := Lib.hid ((kw1.trans kw2).high k2 (Nat.le_refl _))
      have Z4 := Lib.hid z4
      have Z5 := Lib.hid z5
      have Z6 := Lib.hid z6
      clear z4 z5 z6 r2 k2
      go_wp2_with fail
      have z4 := Z4.out
      have z5 := Z5.out
      have z6 := Z6.out
      refine ⟨.tuple #[.slice none 0 0, .int .i64 0, .int .i64 2], ?_, .slice none 0 0, rfl, New.nil KF.out⟩
      simp [results, Tryz.results15, go_sem, z4, z5, z6]
    | false =>
      rw [g2, if_neg (by simp)] at hR
      rw [g2] at hct
      have hmay : ∀ t ∈ T, mayT t = true := by
        intro t ht
        rw [List.any_eq_false] at g2
        have := g2 t ht
        simpa using this
      have hq3 : ∀ t ∈ T, t.k = 3 → t.t[0]? = some 39 := fun t ht hk => may_quote (hmay t ht) hk
      have hlen8 : S.length ≤ 8 := by unfold schB at g1; simp at g1; exact g1.1.2
      have hw := fun q (hq : par S (needL 1 T.length) (.lv 1) T 0 = .ok q) => par_words S _ _ _ _ _ hq
      have hpar := fun (P : Nat) (wx : World) (hx : PS wx P T S 0 0) => par_calls P T S htl hq3 (needL 1 T.length) (needL 1 T.length) 1 0 0 wx (Nat.le_refl _) (by omega) (by omega) hx (by rw [Nat.sub_zero]; exact Nat.le_refl _)
      simp only [List.drop_zero] at hpar
      obtain ⟨X, hX⟩ : ∃ X, par S (needL 1 T.length) (.lv 1) T 0 = X := ⟨_, rfl⟩
      rw [hX] at hR hpar
      simp only [hX] at hw
      have HR := Lib.hid hR
      clear hR hX hq3 hmay g1 g2 htl hany
      go_enter_defers Tryz.func15, Tryz.ntmps15
      go_wp2_with fail
      refine (hsm _ (hS.same ((((Kept.refl _ w).alloc _).alloc _).alloc _))).mono ?_
      rintro e w1 ⟨rfl, k1⟩
      have r1 := (Res3.new w (.slice none 0 0) (.int .i64 0) (.int .i64 0)).keep k1 (fun _ q => q.elim)
      have kw1 := ((((Kept.refl (fun _ => False) w).alloc _).alloc _).alloc _).trans k1
      go_wp2_with fail
      refine (hct _ kw1).mono ?_
      rintro e w2 ⟨_, rfl, kw2⟩
      have r2 := r1.keep kw2 (fun _ q => q.elim)
      have kw3 := kw1.trans kw2
      clear hct hsm r1 k1 kw1 kw2
      have hn2 := (Array.getElem?_eq_some_iff.1 r2.h6).1
      have kp := (Kept.refl (fun _ => False) w2).alloc (.cells #[.slice A T.length c, .int .i64 0, .int .i64 0, .slice B S.length e0] 106)
      have hbp := heap_alloc_new w2 (.cells #[.slice A T.length c, .int .i64 0, .int .i64 0, .slice B S.length e0] 106)
      obtain ⟨W, hW⟩ : ∃ W, w2.alloc (.cells #[.slice A T.length c, .int .i64 0, .int .i64 0, .slice B S.length e0] 106) = W := ⟨_, rfl⟩
      rw [hW] at hbp kp
      have ps : PS W w2.heap.size T S 0 0 := ⟨⟨A, c, B, e0, hbp, hT.fresh encT_len (by decide) (kw3.trans kp) (fun j q => by have := kw3.size; omega), hS.fresh encC_len (by decide) (kw3.trans kp) (fun j q => by have := kw3.size; omega)⟩, Nat.zero_le _, hl, by omega, hlen8⟩
      have hor := hpar _ _ ps
      have r3 := r2.keep kp (fun _ q => q.elim)
      have hWP : w2.heap.size < W.heap.size := (Array.getElem?_eq_some_iff.1 hbp).1
      have kw4 := kw3.trans kp
      have hlt : w.heap.size + 1 + 1 < w2.heap.size := hn2
      clear hpar ps hbp kp r2 kw3 hn2
      go_wp2_with fail
      clear hW
      cases X with
      | error ee =>
        have HX : Hid (R = ([], 0, ee)) := HR.out.symm
        refine hor.mono ?_
        rintro e w5 ⟨rfl, k5⟩
        have r5 := r3.keep k5 (fun j q => by omega)
        have kw5 := kw4.trans' k5 (fun _ _ q => q) (fun j hj q => by have := hlt; omega)
        refine leaves_cons (f := 43) (args := #[.pointer (some ⟨w.heap.size, 0, none⟩), .pointer (some ⟨w.heap.size + 1, 0, none⟩), .pointer (some ⟨w.heap.size + 1 + 1, 0, none⟩)]) (by simp) (by simp [go_sem, enters_of Tryz.func43 (by kernel_rfl) rfl]) ?_
        refine (catch_p ee w.heap.size (w.heap.size + 1) (w.heap.size + 1 + 1) _ _ _ _ r5.h4 r5.h5 r5.h6 (by omega) (by omega) (by omega)).mono ?_
        rintro e u' w9 ⟨rfl, rfl, e4, e5, e6, kf⟩
        obtain ⟨z4, z5, z6, _, _, _⟩ := Res3.cells ⟨e4, e5, e6⟩
        have KF := (kw5).trans' kf (fun _ _ q => q) (fun j hj q => by omega)
        refine ⟨.tuple #[.slice none 0 0, .int .i64 0, .int .i64 ee], ?_, .slice none 0 0, ?_, ?_⟩
        · simp [results, Tryz.results15, go_sem, z4, z5, z6]
        · rw [HX.out]
        · rw [HX.out]; exact New.nil KF
      | ok q =>
        have hwq := hw q rfl
        obtain ⟨x, r⟩ := q
        simp only [wordsOf] at hwq
        refine hor.mono ?_
        rintro e w5 ⟨v, i1, rfl, hnew, hps, hdr⟩
        have hdr' : T.drop i1 = r := hdr
        have hi1 := hps.le
        have hlr : r.length = T.length - i1 := by rw [← hdr', List.length_drop]
        obtain ⟨A5, c5, rfl, _, hs5⟩ := hnew.row.asSrc encW_len
        simp only at hs5 hnew
        have k5 := hnew.kept
        have r5 := r3.keep k5 (fun j q => by omega)
        have kw5 := kw4.trans' k5 (fun _ _ q => q) (fun j hj q => by have := hlt; omega)
        obtain ⟨y4, y5, y6, f4, f5, f6⟩ := r5.cells
        obtain ⟨r6, k6⟩ := r5.one (.slice A5 x.length c5)
        have hW4 := kw4.size
        have hown : ∀ j, (Value.slice A5 x.length c5).ownBlock = some j → w2.heap.size < j := fun j hj => by have := hnew.own j hj; omega
        obtain ⟨A6, c6, hv6, _, _, hs6⟩ := hnew.row.src encW_len (fun j => j = w.heap.size) (fun j hj q => by have := hown j hj; omega)
        injection hv6 with hv1 _ hv2
        subst hv1 hv2
        have hs7 : Src encW 3 _ (fun _ => False) A5 x := hs6.kept k6 (fun _ q => q) (fun _ q => q.elim)
        have hrow6 := hnew.row.kept k6 (fun g hg q => by have := hown g hg; omega)
        have kw6 := kw5.trans' k6 (fun _ _ q => q) (fun j hj q => by omega)
        obtain ⟨A7, c7, B7, e7, _, _, _, _, p1, _, _, _, _, _⟩ := hps.cells
        have p1' := k6.cell p1 (fun q => by have := hlt; simp only at q; omega)
        obtain ⟨W6, hW6⟩ : ∃ W6, w5.setCell ⟨w.heap.size, 0, none⟩ (.slice A5 x.length c5) = W6 := ⟨_, rfl⟩
        rw [hW6] at r6 k6 hs7 hrow6 kw6 p1'
        have hfm := form_any x A5 c5 W6 hs7 (by unfold maxLen; omega)
        obtain ⟨x4, x5, x6, _, _, _⟩ := r6.cells
        clear hs5 hs6 hs7 k5 hnew hps r3 kw4 p1 hor hw hT hS
        by_cases gf : formI x = 0
        · have HX : Hid (R = (x, (i1 : Int), 0)) := by
            unfold Hid; rw [← HR.out]; simp only
            rw [if_pos gf, hlr, show ((T.length : Int) - ((T.length - i1 : Nat) : Int)) = i1 by omega]
          rw [gf] at hfm
          have hnd := fun wx => need_yes 6 wx
          clear gf HR
          go_wp2_with fail
          refine hfm.mono ?_
          rintro e w7 ⟨rfl, k7⟩
          have r7 := r6.keep k7 (fun _ q => q.elim)
          have hrow7 := hrow6.same k7
          have kw7 := kw6.trans k7
          have p7 := k7.cell p1' (fun q => q)
          obtain ⟨a4, a5, a6, f4', f5', f6'⟩ := r7.cells
          clear y4 y5 y6 f4 f5 f6 r5 r6 hrow6 hfm x4 x5 x6 p1' hW6
          go_wp2_with fail
          refine (hnd _).mono ?_
          rintro e w8 ⟨rfl, rfl⟩
          have m1 : ¬ w2.heap.size = w.heap.size := by omega
          have m2 : ¬ w2.heap.size = w.heap.size + 1 := by omega
          have m3 : ¬ w2.heap.size = w.heap.size + 1 + 1 := by omega
          have m4 : ¬ w.heap.size = w2.heap.size := by omega
          have m5 : ¬ w.heap.size + 1 = w2.heap.size := by omega
          have m6 : ¬ w.heap.size + 1 + 1 = w2.heap.size := by omega
          go_wp2_with fail
          go_region
          all_goals
            obtain ⟨r9, k9⟩ := r7.set (.slice A5 x.length c5) (.int .i64 i1) (.int .i64 0)
            obtain ⟨z4, z5, z6, _, _, _⟩ := r9.cells
            have hrow9 := (hrow7.kept k9 (fun g hg q => by have := hown g hg; omega)).same ((Kept.refl (fun _ => False) _).drew)
            have KF := (kw7.high k9 (Nat.le_refl _)).drew
            have hown9 : ∀ j, (Value.slice A5 x.length c5).ownBlock = some j → w.heap.size ≤ j := fun j hj => by have := hown j hj; omega
            have HN : Hid (New encW 3 62 w _ (.slice A5 x.length c5) x) := ⟨hrow9, hown9, KF⟩
            have Z4 := Lib.hid z4
            have Z5 := Lib.hid z5
            have Z6 := Lib.hid z6
            clear z4 z5 z6 r9 k9 hrow9 KF hrow7 r7 p7 a4 a5 a6 f4' f5' f6'
            go_wp2_with fail
            refine leaves_cons (f := 43) (args := #[.pointer (some ⟨w.heap.size, 0, none⟩), .pointer (some ⟨w.heap.size + 1, 0, none⟩), .pointer (some ⟨w.heap.size + 1 + 1, 0, none⟩)]) (by simp) (by simp [go_sem, enters_of Tryz.func43 (by kernel_rfl) rfl]) ?_
            refine (catch_idle w.heap.size (w.heap.size + 1) (w.heap.size + 1 + 1) _).mono ?_
            rintro e u' w9 ⟨rfl, rfl, rfl⟩
            have z4 := Z4.out
            have z5 := Z5.out
            have z6 := Z6.out
            refine ⟨.tuple #[.slice A5 x.length c5, .int .i64 i1, .int .i64 0], ?_, .slice A5 x.length c5, ?_, ?_⟩
            · simp [results, Tryz.results15, go_sem, z4, z5, z6]
            · rw [HX.out]
            · rw [HX.out]; exact HN.out
        · have HX : Hid (R = ([], 0, 6)) := by
            unfold Hid; rw [← HR.out]; simp only
            rw [if_neg gf]
          have gf' : (formI x == 0) = false := by simpa using gf
          generalize formI x = fx at *
          have hnd := fun wx => need_no 6 wx
          clear gf HR
          go_wp2_with fail
          refine hfm.mono ?_
          rintro e w7 ⟨rfl, k7⟩
          have r7 := r6.keep k7 (fun _ q => q.elim)
          have kw7 := kw6.trans k7
          go_wp2_with fail
          refine (hnd _).mono ?_
          rintro e w8 ⟨rfl, rfl⟩
          refine leaves_cons (f := 43) (args := #[.pointer (some ⟨w.heap.size, 0, none⟩), .pointer (some ⟨w.heap.size + 1, 0, none⟩), .pointer (some ⟨w.heap.size + 1 + 1, 0, none⟩)]) (by simp) (by simp [go_sem, enters_of Tryz.func43 (by kernel_rfl) rfl]) ?_
          refine (catch_p 6 w.heap.size (w.heap.size + 1) (w.heap.size + 1 + 1) _ _ _ _ r7.h4 r7.h5 r7.h6 (by omega) (by omega) (by omega)).mono ?_
          rintro e u' w9 ⟨rfl, rfl, e4, e5, e6, kf⟩
          obtain ⟨z4, z5, z6, _, _, _⟩ := Res3.cells ⟨e4, e5, e6⟩
          have KF := (kw7).trans' kf (fun _ _ q => q) (fun j hj q => by omega)
          refine ⟨.tuple #[.slice none 0 0, .int .i64 0, .int .i64 6], ?_, .slice none 0 0, ?_, ?_⟩
          · simp [results, Tryz.results15, go_sem, z4, z5, z6]
          · rw [HX.out]
          · rw [HX.out]; exact New.nil KF
end Go.Proofs.YtballmombklalaaGreat

/- parse: Expr. -/
namespace Go.Proofs.YtballmombklalaaGreat
open Go.RowKit

theorem split_tok : ∀ (n : Nat) (s : List UInt8) (acc : List Tok) (t : Tok), t ∈ (splitF n s acc).1 → t ∈ acc ∨ t.t.length ≤ s.length
  | 0, s, acc, t, h => .inl h
  | n + 1, [], acc, t, h => .inl h
  | n + 1, c :: q, acc, t, h => by
    rw [splitF] at h
    split at h
    · rcases split_tok n q acc t h with h | h
      · exact .inl h
      · exact .inr (by simp only [List.length_cons]; omega)
    · split at h
      · rename_i he
        have hl := first_len (s := c :: q) (by simp) he
        rcases split_tok n _ _ t h with h | h
        · rw [List.mem_append, List.mem_singleton] at h
          rcases h with h | h
          · exact .inl h
          · subst h; exact .inr hl.2
        · rw [List.length_drop] at h; exact .inr (by omega)
      · cases h
theorem split_toks (s : List UInt8) : ∀ t ∈ (splitS s).1, t.t.length ≤ s.length := by
  intro t ht
  rcases split_tok _ _ _ t ht with h | h
  · cases h
  · exact h

/-- The expression that a text is, and why it is none. -/
def pexS (s : List UInt8) (S : List Cl) : List Wd × Int :=
  if schB S = false then ([], 17)
  else if (splitS s).2 = 0 then
    (if (begS (splitS s).1 S).2.2 = 0 then (if (begS (splitS s).1 S).2.1 < (splitS s).1.length then ([], 4) else ((begS (splitS s).1 S).1, 0)) else ([], (begS (splitS s).1 S).2.2))
  else ([], (splitS s).2)

set_option maxHeartbeats 2000000 in
set_option maxRecDepth 100000 in
theorem pexpr_any (s : List UInt8) (S : List Cl) (B : Option Addr) (e0 : Nat) (w : World) (hS : Src encC 2 w (fun _ => False) B S) (hl : s.length ≤ 1048576) (hsl : S.length ≤ maxLen) :
    Calls Tryz.prog 4 #[.string ⟨⟨s⟩⟩, .slice B S.length e0] w fun e w' => ∃ v, e = .returned (.tuple #[v, .int .i64 (pexS s S).2]) ∧ New encW 3 62 w w' v (pexS s S).1 := by
  obtain ⟨R, hR⟩ : ∃ R, pexS s S = R := ⟨_, rfl⟩
  rw [hR]
  have hsm := fun wx hx => smay_any S B e0 wx hsl hx
  have hsp := fun wx => split_any s wx hl
  have htk := split_toks s
  unfold pexS at hR
  cases g1 : schB S with
  | false =>
    rw [g1, if_pos rfl] at hR
    subst hR
    rw [g1] at hsm
    clear g1 hsp htk
    go_enter Tryz.func4, Tryz.ntmps4
    go_wp2_with fail
    refine (hsm _ hS).mono ?_
    rintro e w1 ⟨rfl, k1⟩
    go_wp2_with fail
    go_ret2
    exact ⟨_, rfl, New.nil k1⟩
  | true =>
    rw [g1, if_neg (by simp)] at hR
    rw [g1] at hsm
    generalize hT : splitS s = Q at *
    obtain ⟨T, se⟩ := Q
    simp only at hR hsp htk
    by_cases g2 : se = 0
    · subst g2
      rw [if_pos rfl] at hR
      have hbg := fun (A : Option Addr) (c : Nat) (wx : World) h1 h2 (hlT : T.length ≤ 1048576) => begin_any T S A B c e0 wx h1 h2 hlT hsl (fun t ht => Nat.le_trans (htk t ht) hl)
      generalize begS T S = bq at *
      obtain ⟨x, n, er⟩ := bq
      simp only at hR hbg
      clear hT g1
      by_cases g3 : er = 0
      · subst g3
        rw [if_pos rfl] at hR
        by_cases g4 : n < T.length
        · rw [if_pos g4] at hR
          subst hR
          go_enter Tryz.func4, Tryz.ntmps4
          go_wp2_with fail
          refine (hsm _ hS).mono ?_
          rintro e w1 ⟨rfl, k1⟩
          go_wp2_with fail
          refine (hsp _).mono ?_
          rintro e w2 ⟨v, rfl, hrow, hlen, k2, hown⟩
          obtain ⟨A, c, rfl, _, _, hs2⟩ := hrow.src encT_len (fun _ => False) (fun _ _ q => q)
          go_wp2_with fail
          refine (hbg A c _ hs2 (hS.same (k1.trans k2)) (by omega)).mono ?_
          rintro e w3 ⟨vx, rfl, hnew⟩
          have KF := Lib.hid ((k1.trans k2).trans hnew.kept)
          clear hnew hs2 hrow hown
          go_wp2_with fail
          go_ret2
          exact ⟨_, rfl, New.nil KF.out⟩
        · rw [if_neg g4] at hR
          subst hR
          have g4' : decide (n < (T.length : Int)) = false := by simp; omega
          go_enter Tryz.func4, Tryz.ntmps4
          go_wp2_with fail
          refine (hsm _ hS).mono ?_
          rintro e w1 ⟨rfl, k1⟩
          go_wp2_with fail
          refine (hsp _).mono ?_
          rintro e w2 ⟨v, rfl, hrow, hlen, k2, hown⟩
          obtain ⟨A, c, rfl, _, _, hs2⟩ := hrow.src encT_len (fun _ => False) (fun _ _ q => q)
          go_wp2_with fail
          refine (hbg A c _ hs2 (hS.same (k1.trans k2)) (by omega)).mono ?_
          rintro e w3 ⟨vx, rfl, hnew⟩
          have HN := Lib.hid (hnew.from (k1.trans k2))
          clear hnew hs2 hrow hown g4
          go_wp2_with fail
          go_ret2
          exact ⟨_, rfl, HN.out⟩
      · rw [if_neg g3] at hR
        subst hR
        have g3' : (er == 0) = false := by simpa using g3
        have g3'' : (er != 0) = true := by simpa using g3
        clear g3
        go_enter Tryz.func4, Tryz.ntmps4
        go_wp2_with fail
        refine (hsm _ hS).mono ?_
        rintro e w1 ⟨rfl, k1⟩
        go_wp2_with fail
        refine (hsp _).mono ?_
        rintro e w2 ⟨v, rfl, hrow, hlen, k2, hown⟩
        obtain ⟨A, c, rfl, _, _, hs2⟩ := hrow.src encT_len (fun _ => False) (fun _ _ q => q)
        go_wp2_with fail
        refine (hbg A c _ hs2 (hS.same (k1.trans k2)) (by omega)).mono ?_
        rintro e w3 ⟨vx, rfl, hnew⟩
        have KF := Lib.hid ((k1.trans k2).trans hnew.kept)
        clear hnew hs2 hrow hown
        go_wp2_with fail
        go_ret2
        exact ⟨_, rfl, New.nil KF.out⟩
    · rw [if_neg g2] at hR
      subst hR
      have g2' : (se == 0) = false := by simpa using g2
      have g2'' : (se != 0) = true := by simpa using g2
      clear g2 hT
      go_enter Tryz.func4, Tryz.ntmps4
      go_wp2_with fail
      refine (hsm _ hS).mono ?_
      rintro e w1 ⟨rfl, k1⟩
      go_wp2_with fail
      refine (hsp _).mono ?_
      rintro e w2 ⟨v, rfl, hrow, hlen, k2, hown⟩
      have KF := Lib.hid (k1.trans k2)
      clear hrow hown
      go_wp2_with fail
      go_ret2
      exact ⟨_, rfl, New.nil KF.out⟩
end Go.Proofs.YtballmombklalaaGreat
