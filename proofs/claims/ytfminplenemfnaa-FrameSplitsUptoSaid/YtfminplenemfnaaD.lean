/- The cases of take (head0). Printed by gen/frameC.py. -/
import Derived.Test.YtfminplenemfnaaB
namespace Go.Proofs.Ytfminplenemfnaa
open Go.RowKit

set_option maxHeartbeats 8000000 in
theorem take_part (w : World) (c : Nat) (vL vB : Value) (h0 : Int) (g o cap : Nat) (h : Cut w c vL vB [] [] 0) (hx : w.cell? ⟨g, o, none⟩ = some (.int .u8 h0)) (hcap : 1 ≤ cap) :
    Calls Try.prog 15 #[.pointer (some ⟨c, 0, none⟩), .slice (some ⟨g, o, none⟩) 1 cap] w (PostTake c g vL vB w [h0] [] 0 [] false) := by
  have c0 := h.c0
  have f0 := frozen_of h.blk 0
  obtain ⟨aL, cL, rfl⟩ := h.rowL.shape
  obtain ⟨aB, cB, rfl⟩ := h.rowB.shape
  have hcd : (1 : Int) ≤ (cap : Int) := by omega
  go_enter Try.func15, Try.ntmps15
  go_wp2
  go_region_law ((refine step_append_u8 _ rfl _ _ (by rfl) (.slice aL 0 cL) [] (by rfl) h.rowL g o cap 1 [h0] (by rfl) rfl (one_get hx) (by simp) ?_; intro vL' w1 k1 k2 k3; obtain ⟨aL2, cL2, hs2⟩ := k1.shape; rw [show ([] ++ [h0] : List Int).length = 1 from rfl] at hs2; subst hs2; have k0 : Kept (fun k => (Value.slice aL 0 cL).ownBlock = some k) w w1 := ((Kept.refl _ _).drew).grown k2 (fun k hk _ => hk); have q0 := k0.heap h.blk h.notL; have q1 := blk_c0 q0; have q3 := frozen_of q0 0))
  obtain ⟨H1, K1, J1⟩ := h.head_next k0 k1 k3
  generalize w1.setCell ⟨c, 0, none⟩ (.slice aL2 1 cL2) = W at *
  have e0 := H1.c0
  go_wp2
  all_goals go_ret2
  all_goals exact ⟨_, _, _, _, rfl, Nat.zero_le _, (fun i x hi => by cases hi), H1, K1, J1⟩

set_option maxHeartbeats 8000000 in
theorem take_head01 (w : World) (c : Nat) (vL vB : Value) (h0 h1 : Int) (d : Nat) (g o cap : Nat) (l : List Int) (h : Cut w c vL vB [] [] 0) (hg : ¬ Own c vL vB g) (b0 : 0 ≤ h0 ∧ h0 ≤ 255) (b1 : 0 ≤ h1 ∧ h1 ≤ 255)
    (hd : h0 * 256 + h1 = d) (hcap : (h0 :: h1 :: l).length ≤ cap) (hlen : l.length ≤ 140737488351232) (hx : ∀ i x, (h0 :: h1 :: l)[i]? = some x → w.cell? ⟨g, o + i, none⟩ = some (.int .u8 x)) (hw : d ≤ 4096) (he : d ≤ l.length) :
    Calls Try.prog 15 #[.pointer (some ⟨c, 0, none⟩), .slice (some ⟨g, o, none⟩) (h0 :: h1 :: l).length cap] w (PostTake c g vL vB w [h0, h1] (l.take d) ↑d (l.drop d) true) := by
  have c0 := h.c0
  have f0 := frozen_of h.blk 0
  obtain ⟨aL, cL, rfl⟩ := h.rowL.shape
  obtain ⟨aB, cB, rfl⟩ := h.rowB.shape
  simp only [List.length_cons] at hcap
  have hcd : (2 : Int) ≤ (cap : Int) := by omega
  obtain ⟨o1, hA, hA2⟩ : ∃ o1, (if cap = 2 then some (⟨g, o, none⟩ : Addr) else some ⟨g, o + 2, none⟩) = some ⟨g, o1, none⟩ ∧ (o1 = o + 2 ∨ (h0 :: h1 :: l).length ≤ 2) := by
    by_cases hk : cap = 2
    · exact ⟨o, by rw [if_pos hk], .inr (by simp only [List.length_cons]; omega)⟩
    · exact ⟨o + 2, by rw [if_neg hk], .inl rfl⟩
  go_enter Try.func15, Try.ntmps15
  go_wp2
  go_region_law ((refine step_append_u8 _ rfl _ _ (by rfl) (.slice aL 0 cL) [] (by rfl) h.rowL g o cap 2 [h0, h1] (by rfl) rfl (fun j u hj => hx j u (pre_get hj)) (by simp) ?_; intro vL' w1 k1 k2 k3; obtain ⟨aL2, cL2, hs2⟩ := k1.shape; rw [show ([] ++ [h0, h1] : List Int).length = 2 from rfl] at hs2; subst hs2; have k0 : Kept (fun k => (Value.slice aL 0 cL).ownBlock = some k) w w1 := ((Kept.refl _ _).drew).grown k2 (fun k hk _ => hk); have q0 := k0.heap h.blk h.notL; have q1 := blk_c0 q0; have q3 := frozen_of q0 0))
  obtain ⟨H1, K1, J1⟩ := h.head_next k0 k1 k3
  generalize w1.setCell ⟨c, 0, none⟩ (.slice aL2 2 cL2) = W at *
  have e0 := H1.c0
  have hx1 : ∀ i x, l[i]? = some x → W.cell? ⟨g, o1 + i, none⟩ = some (.int .u8 x) := drop_reads (l := h0 :: h1 :: l) (d := 2) hx K1 hg hA2
  have hg1 : ¬ Own c (Value.slice aL2 2 cL2) (Value.slice aB ([] : List Int).length cB) g := fun hk => (J1 g hk).elim hg (fun hle => absurd (World.block_lt_of_cell? (a := ⟨g, o + 0, none⟩) w (hx 0 _ rfl)) (by simp only; omega))
  have e1 := H1.c1
  have e2 := H1.c2
  have g1 := frozen_of H1.blk 1
  have g2 := frozen_of H1.blk 2
  have want (n : Nat) := Calls.quiet_of (want_any (W.drewN n) _ _ _ _ _ _ _ (H1.kept ((Kept.refl (fun _ => False) W).drewN n) (fun _ _ x => x)) b0 b1)
  have want2 (n : Nat) := want_any (W.drewN n) _ _ _ _ _ _ _ (H1.kept ((Kept.refl (fun _ => False) W).drewN n) (fun _ _ x => x)) b0 b1
  have hcd2 : (d : Int) ≤ ((cap - 2 : Nat) : Int) := by omega
  have hLB : (([] : List Int) ++ (l.take d)).length = d := by (simp only [List.length_append, List.length_take, List.length_nil]; omega)
  rw [hd] at want want2
  go_wp2_with fail
  go_quiet ((go_at_call 17; exact want _))
  go_wp2_with fail
  refine (want2 _).mono ?_
  rintro e w' ⟨rfl, n, rfl⟩
  go_wp2_with fail
  go_region_law ((refine step_append_u8 _ rfl _ _ (by rfl) (.slice aB 0 cB) [] (by rfl) H1.rowB g o1 (cap - 2) d (l.take d) (by rfl) (by rw [List.length_take]; omega) (fun j u hj => hx1 j u (take_get hj)) (by simp only [List.length_nil]; omega) ?_; intro vB' w2 m1 m2 m3; obtain ⟨aB2, cB2, hs3⟩ := m1.shape; rw [hLB] at hs3; subst hs3; have m0 : Kept (fun k => (Value.slice aB 0 cB).ownBlock = some k) W w2 := ((Kept.refl _ _).drewN _).grown m2 (fun k hk _ => hk); have p0 := m0.heap H1.blk H1.notB; have p1 := blk_c1 p0; have p2 := blk_c2 p0; have p3 := frozen_of p0 1; have p4 := frozen_of p0 2))
  obtain ⟨H3, H4, H5⟩ := H1.body_next d m0 m1 m3
  have want3 (n : Nat) := Calls.quiet_of (want_any (World.drewN _ n) _ _ _ _ _ _ _ (H3.kept ((Kept.refl (fun _ => False) _).drewN n) (fun _ _ x => x)) b0 b1)
  have d2 := H3.c2
  rw [hd] at want3
  have H6 := own_next K1 J1 H4 H5
  go_wp2_with fail
  go_quiet ((go_at_call 17; exact want3 _))
  go_wp2_with fail
  all_goals go_ret2
  all_goals refine ⟨_, _, _, _, (by rw [List.length_drop]; rfl), ?_, ?_, H3.kept ((Kept.refl (fun _ => False) _).drewN _) (fun _ _ x => x), H6.1.drewN _, H6.2⟩
  all_goals first
    | (rw [List.length_drop]; omega)
    | exact drop_reads hx1 (H4.drewN _) hg1 (by first | exact .inl rfl | exact .inr (by omega))

set_option maxHeartbeats 8000000 in
theorem take_head02 (w : World) (c : Nat) (vL vB : Value) (h0 h1 : Int) (d : Nat) (g o cap : Nat) (l : List Int) (h : Cut w c vL vB [] [] 0) (hg : ¬ Own c vL vB g) (b0 : 0 ≤ h0 ∧ h0 ≤ 255) (b1 : 0 ≤ h1 ∧ h1 ≤ 255)
    (hd : h0 * 256 + h1 = d) (hcap : (h0 :: h1 :: l).length ≤ cap) (hlen : l.length ≤ 140737488351232) (hx : ∀ i x, (h0 :: h1 :: l)[i]? = some x → w.cell? ⟨g, o + i, none⟩ = some (.int .u8 x)) (hw : d ≤ 4096) (he : l.length < d) :
    Calls Try.prog 15 #[.pointer (some ⟨c, 0, none⟩), .slice (some ⟨g, o, none⟩) (h0 :: h1 :: l).length cap] w (PostTake c g vL vB w [h0, h1] l ↑l.length [] false) := by
  have c0 := h.c0
  have f0 := frozen_of h.blk 0
  obtain ⟨aL, cL, rfl⟩ := h.rowL.shape
  obtain ⟨aB, cB, rfl⟩ := h.rowB.shape
  simp only [List.length_cons] at hcap
  have hcd : (2 : Int) ≤ (cap : Int) := by omega
  obtain ⟨o1, hA, hA2⟩ : ∃ o1, (if cap = 2 then some (⟨g, o, none⟩ : Addr) else some ⟨g, o + 2, none⟩) = some ⟨g, o1, none⟩ ∧ (o1 = o + 2 ∨ (h0 :: h1 :: l).length ≤ 2) := by
    by_cases hk : cap = 2
    · exact ⟨o, by rw [if_pos hk], .inr (by simp only [List.length_cons]; omega)⟩
    · exact ⟨o + 2, by rw [if_neg hk], .inl rfl⟩
  go_enter Try.func15, Try.ntmps15
  go_wp2
  go_region_law ((refine step_append_u8 _ rfl _ _ (by rfl) (.slice aL 0 cL) [] (by rfl) h.rowL g o cap 2 [h0, h1] (by rfl) rfl (fun j u hj => hx j u (pre_get hj)) (by simp) ?_; intro vL' w1 k1 k2 k3; obtain ⟨aL2, cL2, hs2⟩ := k1.shape; rw [show ([] ++ [h0, h1] : List Int).length = 2 from rfl] at hs2; subst hs2; have k0 : Kept (fun k => (Value.slice aL 0 cL).ownBlock = some k) w w1 := ((Kept.refl _ _).drew).grown k2 (fun k hk _ => hk); have q0 := k0.heap h.blk h.notL; have q1 := blk_c0 q0; have q3 := frozen_of q0 0))
  obtain ⟨H1, K1, J1⟩ := h.head_next k0 k1 k3
  generalize w1.setCell ⟨c, 0, none⟩ (.slice aL2 2 cL2) = W at *
  have e0 := H1.c0
  have hx1 : ∀ i x, l[i]? = some x → W.cell? ⟨g, o1 + i, none⟩ = some (.int .u8 x) := drop_reads (l := h0 :: h1 :: l) (d := 2) hx K1 hg hA2
  have hg1 : ¬ Own c (Value.slice aL2 2 cL2) (Value.slice aB ([] : List Int).length cB) g := fun hk => (J1 g hk).elim hg (fun hle => absurd (World.block_lt_of_cell? (a := ⟨g, o + 0, none⟩) w (hx 0 _ rfl)) (by simp only; omega))
  have e1 := H1.c1
  have e2 := H1.c2
  have g1 := frozen_of H1.blk 1
  have g2 := frozen_of H1.blk 2
  have want (n : Nat) := Calls.quiet_of (want_any (W.drewN n) _ _ _ _ _ _ _ (H1.kept ((Kept.refl (fun _ => False) W).drewN n) (fun _ _ x => x)) b0 b1)
  have want2 (n : Nat) := want_any (W.drewN n) _ _ _ _ _ _ _ (H1.kept ((Kept.refl (fun _ => False) W).drewN n) (fun _ _ x => x)) b0 b1
  have hcd2 : (l.length : Int) ≤ ((cap - 2 : Nat) : Int) := by omega
  have hLB : (([] : List Int) ++ l).length = l.length := by (simp only [List.length_append, List.length_nil]; omega)
  rw [hd] at want want2
  go_wp2_with fail
  go_quiet ((go_at_call 17; exact want _))
  go_wp2_with fail
  refine (want2 _).mono ?_
  rintro e w' ⟨rfl, n, rfl⟩
  go_wp2_with fail
  go_region_law ((refine step_append_u8 _ rfl _ _ (by rfl) (.slice aB 0 cB) [] (by rfl) H1.rowB g o1 (cap - 2) l.length l (by rfl) (by rfl) (hx1) (by simp only [List.length_nil]; omega) ?_; intro vB' w2 m1 m2 m3; obtain ⟨aB2, cB2, hs3⟩ := m1.shape; rw [hLB] at hs3; subst hs3; have m0 : Kept (fun k => (Value.slice aB 0 cB).ownBlock = some k) W w2 := ((Kept.refl _ _).drewN _).grown m2 (fun k hk _ => hk); have p0 := m0.heap H1.blk H1.notB; have p1 := blk_c1 p0; have p2 := blk_c2 p0; have p3 := frozen_of p0 1; have p4 := frozen_of p0 2))
  obtain ⟨H3, H4, H5⟩ := H1.body_next l.length m0 m1 m3
  have want3 (n : Nat) := Calls.quiet_of (want_any (World.drewN _ n) _ _ _ _ _ _ _ (H3.kept ((Kept.refl (fun _ => False) _).drewN n) (fun _ _ x => x)) b0 b1)
  have d2 := H3.c2
  rw [hd] at want3
  have H6 := own_next K1 J1 H4 H5
  go_wp2_with fail
  have hbe : (((l.length : Nat) : Int) == (d : Int)) = false := by (simp only [beq_eq_false_iff_ne, ne_eq]; omega)
  go_quiet ((go_at_call 17; exact want3 _))
  go_wp2_with fail
  all_goals go_ret2
  all_goals exact ⟨_, _, _, _, rfl, Nat.zero_le _, (fun i x hi => by cases hi), H3.kept ((Kept.refl (fun _ => False) _).drewN _) (fun _ _ x => x), H6.1.drewN _, H6.2⟩

set_option maxHeartbeats 8000000 in
theorem take_head03 (w : World) (c : Nat) (vL vB : Value) (h0 h1 : Int) (d : Nat) (g o cap : Nat) (l : List Int) (h : Cut w c vL vB [] [] 0) (hg : ¬ Own c vL vB g) (b0 : 0 ≤ h0 ∧ h0 ≤ 255) (b1 : 0 ≤ h1 ∧ h1 ≤ 255)
    (hd : h0 * 256 + h1 = d) (hcap : (h0 :: h1 :: l).length ≤ cap) (hlen : l.length ≤ 140737488351232) (hx : ∀ i x, (h0 :: h1 :: l)[i]? = some x → w.cell? ⟨g, o + i, none⟩ = some (.int .u8 x)) (hw : 4096 < d) (he : d ≤ l.length) :
    Calls Try.prog 15 #[.pointer (some ⟨c, 0, none⟩), .slice (some ⟨g, o, none⟩) (h0 :: h1 :: l).length cap] w (PostTake c g vL vB w [h0, h1] [] ↑d (l.drop d) true) := by
  have c0 := h.c0
  have f0 := frozen_of h.blk 0
  obtain ⟨aL, cL, rfl⟩ := h.rowL.shape
  obtain ⟨aB, cB, rfl⟩ := h.rowB.shape
  simp only [List.length_cons] at hcap
  have hcd : (2 : Int) ≤ (cap : Int) := by omega
  obtain ⟨o1, hA, hA2⟩ : ∃ o1, (if cap = 2 then some (⟨g, o, none⟩ : Addr) else some ⟨g, o + 2, none⟩) = some ⟨g, o1, none⟩ ∧ (o1 = o + 2 ∨ (h0 :: h1 :: l).length ≤ 2) := by
    by_cases hk : cap = 2
    · exact ⟨o, by rw [if_pos hk], .inr (by simp only [List.length_cons]; omega)⟩
    · exact ⟨o + 2, by rw [if_neg hk], .inl rfl⟩
  go_enter Try.func15, Try.ntmps15
  go_wp2
  go_region_law ((refine step_append_u8 _ rfl _ _ (by rfl) (.slice aL 0 cL) [] (by rfl) h.rowL g o cap 2 [h0, h1] (by rfl) rfl (fun j u hj => hx j u (pre_get hj)) (by simp) ?_; intro vL' w1 k1 k2 k3; obtain ⟨aL2, cL2, hs2⟩ := k1.shape; rw [show ([] ++ [h0, h1] : List Int).length = 2 from rfl] at hs2; subst hs2; have k0 : Kept (fun k => (Value.slice aL 0 cL).ownBlock = some k) w w1 := ((Kept.refl _ _).drew).grown k2 (fun k hk _ => hk); have q0 := k0.heap h.blk h.notL; have q1 := blk_c0 q0; have q3 := frozen_of q0 0))
  obtain ⟨H1, K1, J1⟩ := h.head_next k0 k1 k3
  generalize w1.setCell ⟨c, 0, none⟩ (.slice aL2 2 cL2) = W at *
  have e0 := H1.c0
  have hx1 : ∀ i x, l[i]? = some x → W.cell? ⟨g, o1 + i, none⟩ = some (.int .u8 x) := drop_reads (l := h0 :: h1 :: l) (d := 2) hx K1 hg hA2
  have hg1 : ¬ Own c (Value.slice aL2 2 cL2) (Value.slice aB ([] : List Int).length cB) g := fun hk => (J1 g hk).elim hg (fun hle => absurd (World.block_lt_of_cell? (a := ⟨g, o + 0, none⟩) w (hx 0 _ rfl)) (by simp only; omega))
  have e1 := H1.c1
  have e2 := H1.c2
  have g1 := frozen_of H1.blk 1
  have g2 := frozen_of H1.blk 2
  have want (n : Nat) := Calls.quiet_of (want_any (W.drewN n) _ _ _ _ _ _ _ (H1.kept ((Kept.refl (fun _ => False) W).drewN n) (fun _ _ x => x)) b0 b1)
  have want2 (n : Nat) := want_any (W.drewN n) _ _ _ _ _ _ _ (H1.kept ((Kept.refl (fun _ => False) W).drewN n) (fun _ _ x => x)) b0 b1
  have hcd2 : (d : Int) ≤ ((cap - 2 : Nat) : Int) := by omega
  rw [hd] at want want2
  go_wp2_with fail
  go_quiet ((go_at_call 17; exact want _))
  go_wp2_with fail
  refine (want2 _).mono ?_
  rintro e w' ⟨rfl, n, rfl⟩
  go_wp2_with fail
  obtain ⟨H3, H4⟩ := (H1.kept ((Kept.refl (fun _ => False) W).drewN (nq + n)) (fun _ _ x => x)).got_next d
  have H5 := fun k (hk : Own c (Value.slice aL2 2 cL2) (Value.slice aB ([] : List Int).length cB) k) => (Or.inl hk : Own c (Value.slice aL2 2 cL2) (Value.slice aB ([] : List Int).length cB) k ∨ W.heap.size ≤ k)
  replace H4 := ((Kept.refl _ W).drewN (nq + n)).trans H4
  have want3 (n : Nat) := Calls.quiet_of (want_any (World.drewN _ n) _ _ _ _ _ _ _ (H3.kept ((Kept.refl (fun _ => False) _).drewN n) (fun _ _ x => x)) b0 b1)
  have d2 := H3.c2
  rw [hd] at want3
  have H6 := own_next K1 J1 H4 H5
  go_wp2_with fail
  go_quiet ((go_at_call 17; exact want3 _))
  go_wp2_with fail
  all_goals go_ret2
  all_goals refine ⟨_, _, _, _, (by rw [List.length_drop]; rfl), ?_, ?_, H3.kept ((Kept.refl (fun _ => False) _).drewN _) (fun _ _ x => x), H6.1.drewN _, H6.2⟩
  all_goals first
    | (rw [List.length_drop]; omega)
    | exact drop_reads hx1 (H4.drewN _) hg1 (by first | exact .inl rfl | exact .inr (by omega))

set_option maxHeartbeats 8000000 in
theorem take_head04 (w : World) (c : Nat) (vL vB : Value) (h0 h1 : Int) (d : Nat) (g o cap : Nat) (l : List Int) (h : Cut w c vL vB [] [] 0) (hg : ¬ Own c vL vB g) (b0 : 0 ≤ h0 ∧ h0 ≤ 255) (b1 : 0 ≤ h1 ∧ h1 ≤ 255)
    (hd : h0 * 256 + h1 = d) (hcap : (h0 :: h1 :: l).length ≤ cap) (hlen : l.length ≤ 140737488351232) (hx : ∀ i x, (h0 :: h1 :: l)[i]? = some x → w.cell? ⟨g, o + i, none⟩ = some (.int .u8 x)) (hw : 4096 < d) (he : l.length < d) :
    Calls Try.prog 15 #[.pointer (some ⟨c, 0, none⟩), .slice (some ⟨g, o, none⟩) (h0 :: h1 :: l).length cap] w (PostTake c g vL vB w [h0, h1] [] ↑l.length [] false) := by
  have c0 := h.c0
  have f0 := frozen_of h.blk 0
  obtain ⟨aL, cL, rfl⟩ := h.rowL.shape
  obtain ⟨aB, cB, rfl⟩ := h.rowB.shape
  simp only [List.length_cons] at hcap
  have hcd : (2 : Int) ≤ (cap : Int) := by omega
  obtain ⟨o1, hA, hA2⟩ : ∃ o1, (if cap = 2 then some (⟨g, o, none⟩ : Addr) else some ⟨g, o + 2, none⟩) = some ⟨g, o1, none⟩ ∧ (o1 = o + 2 ∨ (h0 :: h1 :: l).length ≤ 2) := by
    by_cases hk : cap = 2
    · exact ⟨o, by rw [if_pos hk], .inr (by simp only [List.length_cons]; omega)⟩
    · exact ⟨o + 2, by rw [if_neg hk], .inl rfl⟩
  go_enter Try.func15, Try.ntmps15
  go_wp2
  go_region_law ((refine step_append_u8 _ rfl _ _ (by rfl) (.slice aL 0 cL) [] (by rfl) h.rowL g o cap 2 [h0, h1] (by rfl) rfl (fun j u hj => hx j u (pre_get hj)) (by simp) ?_; intro vL' w1 k1 k2 k3; obtain ⟨aL2, cL2, hs2⟩ := k1.shape; rw [show ([] ++ [h0, h1] : List Int).length = 2 from rfl] at hs2; subst hs2; have k0 : Kept (fun k => (Value.slice aL 0 cL).ownBlock = some k) w w1 := ((Kept.refl _ _).drew).grown k2 (fun k hk _ => hk); have q0 := k0.heap h.blk h.notL; have q1 := blk_c0 q0; have q3 := frozen_of q0 0))
  obtain ⟨H1, K1, J1⟩ := h.head_next k0 k1 k3
  generalize w1.setCell ⟨c, 0, none⟩ (.slice aL2 2 cL2) = W at *
  have e0 := H1.c0
  have hx1 : ∀ i x, l[i]? = some x → W.cell? ⟨g, o1 + i, none⟩ = some (.int .u8 x) := drop_reads (l := h0 :: h1 :: l) (d := 2) hx K1 hg hA2
  have hg1 : ¬ Own c (Value.slice aL2 2 cL2) (Value.slice aB ([] : List Int).length cB) g := fun hk => (J1 g hk).elim hg (fun hle => absurd (World.block_lt_of_cell? (a := ⟨g, o + 0, none⟩) w (hx 0 _ rfl)) (by simp only; omega))
  have e1 := H1.c1
  have e2 := H1.c2
  have g1 := frozen_of H1.blk 1
  have g2 := frozen_of H1.blk 2
  have want (n : Nat) := Calls.quiet_of (want_any (W.drewN n) _ _ _ _ _ _ _ (H1.kept ((Kept.refl (fun _ => False) W).drewN n) (fun _ _ x => x)) b0 b1)
  have want2 (n : Nat) := want_any (W.drewN n) _ _ _ _ _ _ _ (H1.kept ((Kept.refl (fun _ => False) W).drewN n) (fun _ _ x => x)) b0 b1
  have hcd2 : (l.length : Int) ≤ ((cap - 2 : Nat) : Int) := by omega
  rw [hd] at want want2
  go_wp2_with fail
  go_quiet ((go_at_call 17; exact want _))
  go_wp2_with fail
  refine (want2 _).mono ?_
  rintro e w' ⟨rfl, n, rfl⟩
  go_wp2_with fail
  obtain ⟨H3, H4⟩ := (H1.kept ((Kept.refl (fun _ => False) W).drewN (nq + n)) (fun _ _ x => x)).got_next l.length
  have H5 := fun k (hk : Own c (Value.slice aL2 2 cL2) (Value.slice aB ([] : List Int).length cB) k) => (Or.inl hk : Own c (Value.slice aL2 2 cL2) (Value.slice aB ([] : List Int).length cB) k ∨ W.heap.size ≤ k)
  replace H4 := ((Kept.refl _ W).drewN (nq + n)).trans H4
  have want3 (n : Nat) := Calls.quiet_of (want_any (World.drewN _ n) _ _ _ _ _ _ _ (H3.kept ((Kept.refl (fun _ => False) _).drewN n) (fun _ _ x => x)) b0 b1)
  have d2 := H3.c2
  rw [hd] at want3
  have H6 := own_next K1 J1 H4 H5
  go_wp2_with fail
  have hbe : (((l.length : Nat) : Int) == (d : Int)) = false := by (simp only [beq_eq_false_iff_ne, ne_eq]; omega)
  go_quiet ((go_at_call 17; exact want3 _))
  go_wp2_with fail
  all_goals go_ret2
  all_goals exact ⟨_, _, _, _, rfl, Nat.zero_le _, (fun i x hi => by cases hi), H3.kept ((Kept.refl (fun _ => False) _).drewN _) (fun _ _ x => x), H6.1.drewN _, H6.2⟩

end Go.Proofs.Ytfminplenemfnaa
