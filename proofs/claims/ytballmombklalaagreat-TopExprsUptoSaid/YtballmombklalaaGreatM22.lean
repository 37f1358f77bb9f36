/- show: Level, leaf, write's say. -/
import Derived.Test.YtballmombklalaaGreatM21
import Derived.Deep.RegionWith
namespace Go.Proofs.YtballmombklalaaGreat
open Go.RowKit

theorem New.mkB {α : Type} {enc : α → List Value} {sz : Nat} {T : TypeId} (hlen : ∀ x, (enc x).length = sz) {w0 w : World} (k : Kept (fun _ => False) w0 w) (M : List α) (hm : M.length ≤ maxLen) {cs : Array Value} {b n : Nat} (hcs : cs = (cellsOf enc M).toArray) (hb : w.heap.size = b) (hn : n = M.length) :
    New enc sz T w0 (w.alloc (.cells cs T)) (.slice (some ⟨b, 0, none⟩) n n) M := by
  subst hb
  exact (New.mkL hlen w M hm cs hcs n hn).from k

theorem Ex.last (t : Ex) : ∃ m, t.flat.length = m + 1 ∧ t.flat[m]? = some t.root := by
  refine ⟨(t.kids.flatMap Ex.flat).length, ?_, ?_⟩
  · rw [t.flat_kids]; simp
  · rw [t.flat_kids]; simp

theorem elevel_any (t : Ex) (A : Option Addr) (cap : Nat) (w : World) (h : Src encW 3 w (fun _ => False) A t.flat) (hl : t.flat.length ≤ 64) (hg : t.good) :
    Calls Tryz.prog 100 #[.slice A t.flat.length cap] w fun e w' => e = .returned (.int .i64 (levelI t.root.c)) ∧ Kept (fun _ => False) w w' := by
  have hform := form_any t.flat A cap w h (by simp only [maxLen]; omega)
  rw [t.form hg hl] at hform
  have ht := fun wx => level_any t.root.c wx
  obtain ⟨m, hm, hx⟩ := t.last
  obtain ⟨b, off, rfl, _, x0, _, _⟩ := h.cells3 hx
  rw [hm] at hform ⊢
  have e1 : wrap64 (m : Int) = (m : Int) := by simp only [wrap64]; omega
  clear hx hm h
  go_enter Tryz.func100, Tryz.ntmps100
  go_wp2_with fail
  refine hform.mono ?_
  rintro e w1 ⟨rfl, k1⟩
  have x1 := k1.cell x0 (fun q => q)
  go_wp2_with fail
  refine (ht _).mono ?_
  rintro e w1 ⟨rfl, rfl⟩
  go_wp2_with fail
  go_ret
  exact ⟨rfl, k1⟩

/-- A word that takes nothing, written. -/
def leafT (S : List Cl) (o : Wd) : List Tok :=
  if o.c = 3 then [⟨1, (S.map Cl.n).getD o.n.toNat []⟩] else if o.c = 2 then [⟨3, quoteS o.t⟩] else if o.n < 0 then [⟨4, [45]⟩, ⟨2, (showN o.n).tail⟩] else [⟨2, showN o.n⟩]
theorem show_pos (n : Int) : 0 < (showN n).length := by
  have : ∀ k x s, 0 < s.length ∨ 0 < k → 0 < (digs k x s).length := by
    intro k
    induction k with
    | zero => intro x s h; rw [digs]; omega
    | succ k ih =>
      intro x s h
      rw [digs]
      split
      · simp
      · exact ih _ _ (.inl (by simp))
  unfold showN
  split
  · simp
  · exact this 19 _ _ (.inr (by omega))

set_option maxHeartbeats 1000000 in
set_option maxRecDepth 100000 in
theorem leaf_any (o : Wd) (S : List Cl) (B : Option Addr) (e0 : Nat) (w : World) (hS : Src encC 2 w (fun _ => False) B S) (hw : wdB o = true) (hn : I64 o.n) (hi : o.c = 3 → o.n < S.length) :
    Calls Tryz.prog 97 #[aggW o, .slice B S.length e0] w fun e w' => ∃ v, e = .returned v ∧ New encT 2 96 w w' v (leafT S o) := by
  obtain ⟨c1, c2, c3, c4⟩ := wd_bd hw
  have hsp := show_pos o.n
  obtain ⟨c, n, t⟩ := o
  unfold aggW leafT
  simp only at *
  by_cases h3 : c = 3
  · subst h3
    rw [if_pos rfl]
    obtain ⟨n0, n1⟩ := c4 rfl
    obtain ⟨k, rfl⟩ := Int.eq_ofNat_of_zero_le n0
    have hk : k < S.length := by have := hi rfl; omega
    obtain ⟨x, hx⟩ : ∃ x, S[k]? = some x := ⟨_, List.getElem?_eq_getElem hk⟩
    obtain ⟨b, off, rfl, _, x0, _⟩ := hS.cellsC hx
    have he : (S.map Cl.n).getD (k : Int).toNat [] = x.n := by simp [List.getD, hx]
    have a0 := ((Kept.refl (fun _ => False) w).alloc (.cells #[.int .i64 3, .int .i64 k, .string ⟨⟨t⟩⟩] 62)).cell x0 (fun q => q)
    rw [he]
    clear he hx hi c4 c3 hn hS hsp
    obtain ⟨xn, xk⟩ := x
    simp only at x0 a0 ⊢
    go_enter Tryz.func97, Tryz.ntmps97
    go_wp2_with fail
    go_ret
    exact ⟨_, rfl, New.mkB encT_len ((Kept.refl _ w).alloc _) [⟨1, xn⟩] (by simp [maxLen]) rfl (by simp) rfl⟩
  · have h3' : (c == 3) = false := by simpa using h3
    rw [if_neg h3]
    by_cases h2 : c = 2
    · subst h2
      rw [if_pos rfl]
      have hv := fun wx => vshow_any t wx (c3 rfl)
      clear hi c4 c3 hn hS hsp
      go_enter Tryz.func97, Tryz.ntmps97
      go_wp2_with fail
      refine (hv _).mono ?_
      rintro e w' ⟨rfl, k1⟩
      go_wp2_with fail
      go_ret
      exact ⟨_, rfl, New.mkB encT_len (((Kept.refl _ w).alloc _).trans k1) [⟨3, quoteS t⟩] (by simp [maxLen]) rfl rfl rfl⟩
    · have h2' : (c == 2) = false := by simpa using h2
      rw [if_neg h2]
      have hv := fun wx => nshow_any n wx hn
      have hbr := fun wx => bracket_any [45] wx
      generalize showN n = D at *
      have hsl := fun wx => slice_lo (P := Tryz.prog) 9 Tryz.underlying9 D 1 (by omega) (by omega) wx
      have htl : D.drop 1 = D.tail := by cases D <;> rfl
      clear hi c4 c3 hn hS
      by_cases h0 : n < 0
      · rw [if_pos h0]
        have hb : decide (n < 0) = true := by simpa using h0
        have k0 := (Kept.refl (fun _ => False) w).alloc (.cells #[.int .i64 c, .int .i64 n, .string ⟨⟨t⟩⟩] 62)
        have hbx := heap_alloc_new w (.cells #[.int .i64 c, .int .i64 n, .string ⟨⟨t⟩⟩] 62)
        go_enter Tryz.func97, Tryz.ntmps97
        go_wp2_with fail
        refine (hv _).mono ?_
        rintro e w' ⟨rfl, k1⟩
        have q0 := cell_of_row w' w.heap.size 1 _ _ _ (k1.heap hbx (fun q => q))
        simp only [List.getElem?_toArray, List.getElem?_cons_zero, List.getElem?_cons_succ] at q0
        go_wp2_with fail
        go_region_with (go_at_call 102; refine (hbr _).mono ?_; rintro e w5 ⟨rfl, k5⟩; unfold aggT)
        all_goals go_wp2_with fail
        all_goals simp only [List.getElem_toArray, List.getElem_cons_succ, List.getElem_cons_zero, Act.put, List.setIfInBounds_toArray, List.set_cons_zero, List.set_cons_succ]
        all_goals go_ret
        all_goals exact ⟨_, rfl, New.mkB encT_len (((k0.trans k1).drew).trans k5) [⟨4, [45]⟩, ⟨2, D.tail⟩] (by simp [maxLen]) rfl rfl rfl⟩
      · rw [if_neg h0]
        have hb : decide (n < 0) = false := by simpa using h0
        have k0 := (Kept.refl (fun _ => False) w).alloc (.cells #[.int .i64 c, .int .i64 n, .string ⟨⟨t⟩⟩] 62)
        have hbx := heap_alloc_new w (.cells #[.int .i64 c, .int .i64 n, .string ⟨⟨t⟩⟩] 62)
        go_enter Tryz.func97, Tryz.ntmps97
        go_wp2_with fail
        refine (hv _).mono ?_
        rintro e w' ⟨rfl, k1⟩
        have q0 := cell_of_row w' w.heap.size 1 _ _ _ (k1.heap hbx (fun q => q))
        simp only [List.getElem?_toArray, List.getElem?_cons_zero, List.getElem?_cons_succ] at q0
        go_wp2_with fail
        go_ret
        exact ⟨_, rfl, New.mkB encT_len (k0.trans k1) [⟨2, D⟩] (by simp [maxLen]) rfl rfl rfl⟩

theorem encT_one : ∀ x, ∀ u ∈ encT x, u.oneCell' = true := by simp [encT, Value.oneCell']
/-- The box O holds a row of tokens; box and row lie from B on. -/
def OutP (B : Nat) (w : World) (O : Nat) (L : List Tok) : Prop :=
  ∃ v, w.heap[O]? = some (.cells #[v] 44 (0, 0)) ∧ Row encT 2 96 w v L ∧ (∀ j, v.ownBlock = some j → B ≤ j ∧ j ≠ O) ∧ B ≤ O
theorem OutP.same {B O : Nat} {w w' : World} {L : List Tok} {S : Nat → Prop} (h : OutP B w O L) (k : Kept S w w') (hS : ∀ j, B ≤ j → ¬ S j) : OutP B w' O L := by
  obtain ⟨v, h1, h2, h3, h4⟩ := h
  exact ⟨v, k.heap h1 (hS O h4), h2.kept k (fun g hg => hS g (h3 g hg).1), h3, h4⟩

set_option maxRecDepth 100000 in
theorem say_any (B O : Nat) (L M : List Tok) (A : Option Addr) (c : Nat) (w : World) (h : OutP B w O L) (hA : A = none → M = [] ∧ c = 0) (hs : Src encT 2 w (fun _ => False) A M) (hl : L.length + M.length ≤ 1048576) :
    Calls Tryz.prog 98 #[.slice A M.length c, .pointer (some ⟨O, 0, none⟩)] w fun e w' => e = .returned (.tuple #[]) ∧ OutP B w' O (L ++ M) ∧ Kept (fun j => B ≤ j) w w' := by
  obtain ⟨v, h1, h2, h3, h4⟩ := h
  obtain ⟨A', c', w', hrun0, hr, hk, ho⟩ := app_src (P := Tryz.prog) (sz := 2) 44 44 (.agg #[.int .i64 0, .string ByteArray.empty]) 24 Tryz.underlying44 (by kernel_rfl) rfl (by decide) encT_len encT_one h2 A c hA hs (by simp only [maxLen]; omega) (by omega)
  have hrun : Hid _ := hrun0
  have c0 := cell_of_row w O 0 _ _ _ h1
  simp only [List.getElem?_toArray, List.getElem?_cons_zero] at c0
  have hbO := hk.heap h1 (fun q => (h3 O q).2 rfl)
  have d0 := cell_of_row w' O 0 _ _ _ hbO
  simp only [List.getElem?_toArray, List.getElem?_cons_zero] at d0
  have f0 := frozen_of hbO 0
  have hlt := (Array.getElem?_eq_some_iff.1 h1).1
  rw [List.length_append] at hr
  clear hrun0
  go_enter Tryz.func98, Tryz.ntmps98
  go_wp2_with (at_builtin; refine wpList_run2 rfl _ _ _ _ rfl rfl rfl hrun ?_)
  go_end0
  refine ⟨rfl, ⟨_, blk_set hbO 0 _, ?_, ?_, h4⟩, ?_⟩
  · refine Row.kept (S := fun j => j = O) hr ((Kept.refl (fun j => j = O) w').setCell (p := ⟨O, 0, none⟩) (fun _ => rfl) _) (fun g hg q => ?_)
    subst q
    rcases ho _ hg with q | q
    · exact (h3 _ q).2 rfl
    · omega
  · intro j hj
    rcases ho j hj with q | q
    · exact h3 j q
    · exact ⟨by omega, by omega⟩
  · exact (hk.mono (fun j _ q => (h3 j q).1)).setCell (p := ⟨O, 0, none⟩) (fun _ => h4) _
end Go.Proofs.YtballmombklalaaGreat
